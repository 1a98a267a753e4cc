
import Derived.Test.YtiafpechgjopfaaGreatDoorQ4TouchCuts

namespace Go.Proofs.YtiafpechgjopfaaGreatDoor.T
noncomputable section
open _root_.Go.Proofs.Tryz
set_option maxRecDepth 100000
set_option maxHeartbeats 8000000
set_option linter.unusedVariables false
set_option linter.unusedSimpArgs false
set_option linter.defProp false
open List (replicate range)
open Go Go.RowKit L
def at0{α:Type}(x:α)(l:Wam α):atL (x::l) 0=some x:=rfl
def sl1{α:Type}(x:α)(l:Wam α):zg9 (x::l) (some 1) none=some l:=by unfold zg9 bdN;simp
structure UnI(a b a' b' out:List Int):Prop where
 m:∀x,(x∈a\/x∈b)↔(x∈out\/x∈a'\/x∈b')
 l:out.length+a'.length+b'.length<=a.length+b.length
 r:jx a->jx b->jx a'/\jx b'/\jx out/\∀x∈out,(∀y∈a',x<y)/\∀y∈b',x<y
def zz6{l:Wa}{x:Int}(h:jx l)(a:∀y∈l,y<x):jx (l++[x]):=by unfold jx at *;grind
def jmc(a b:Wa)(hl:a.length+b.length<=1000000):Tn (λnn=>Qe nn a b) (λr=>r.length<=a.length+b.length/\(∀x,x∈r↔x∈a\/x∈b)/\(jx a->jx b->jx r)):=by unfold Qe;refine Tt.loop (λm s=>∃j g out,m=j.length+g.length/\s=(j,g,out)/\UnI a b j g out) (a.length+b.length) waa ⟨a,b,[],rfl,rfl,⟨λx=>V,V,λd f=>⟨d,f,by simp[jx],V⟩⟩⟩ λm s⟨j,g,out,O,S,k⟩ nx i=>?_;subst S;have N:=k.l;have n:∀x,out.length+1<=1000000->apO 8 out [x]=some (out++[x]):=λx h=>yp X U;have F:∀{x:Int}{c:Wa},j=x::c->(jx g->∀y∈g,x<y)->UnI a b c g (out++[x]):=λ{x c}e H=>by{subst e;refine⟨λz=>by rw[k.m];grind,X,λd f=>?_⟩;obtain⟨A,B,C,D⟩:=k.r d f;have u:=wdk.1 A;refine⟨u.2,B,zz6 C λy Z=>(D y Z).1 x V,λz hz=>?_⟩;grind};have G:∀{y:Int}{b1:Wa},g=y::b1->(jx j->∀x∈j,y<x)->UnI a b j b1 (out++[y]):=λ{y b1}e H=>by{subst e;refine⟨λz=>by rw[k.m];grind,X,λd f=>?_⟩;obtain⟨A,B,C,D⟩:=k.r d f;have v:=wdk.1 B;refine⟨A,v.2,zz6 C λz hz=>(D z hz).2 y V,λz hz=>?_⟩;grind};have L:∀{x:Int}{c b1:Wa},j=x::c->g=x::b1->UnI a b c b1 (out++[x]):=λ{x c b1}P Q=>by{subst P;subst Q;refine⟨λz=>by rw[k.m];grind,X,λd f=>?_⟩;obtain⟨A,B,C,D⟩:=k.r d f;have u:=wdk.1 A;have v:=wdk.1 B;refine⟨u.2,v.2,zz6 C λz hz=>(D z hz).2 x V,λz hz=>?_⟩;grind};have M:∀{x y:Int}{l:Wa},x<y->jx (y::l)->∀z∈y::l,x<z:=λ{x y l}h R z hz=>by{have:=wdk.1 R;grind};cases j with|nil=>{cases g with|nil=>{simp[T.J,ja,ifB];refine Tt.pure ⟨U,λx=>?_,λd f=>(k.r d f).2.2.1⟩;have:=k.m x;grind}|cons y b1=>have I:=n y X;simp[T.J,ja,ifB,at0,sl1,I];exact i _ _ X ⟨[],b1,_,rfl,rfl,G rfl λ_ x Y=>X⟩}|cons x c=>cases g with|nil=>{have I:=n x X;simp[T.J,ja,ifB,at0,sl1,I];exact i _ _ X ⟨c,[],_,rfl,rfl,F rfl λ_ x Y=>X⟩}|cons y b1=>have o:=n x X;have w:=n y X;have p:¬((b1.length:Int)+1=0):=U;have q:¬((c.length:Int)+1=0):=U;have t:(0:Int)<(c.length:Int)+1:=U;by_cases d:x<y;{simp[T.J,ja,ifB,at0,sl1,o,w,d,p,q,t];exact i _ _ X ⟨c,y::b1,_,rfl,rfl,F rfl (M d)⟩};.by_cases f:y<x;{simp[T.J,ja,ifB,at0,sl1,o,w,d,f,p,q,t];exact i _ _ (by subst O;simp<;>omega) ⟨x::c,b1,_,rfl,rfl,G rfl (M f)⟩};.have e:x=y:=U;subst e;simp[T.J,ja,ifB,at0,sl1,o,p,q,t];exact i _ _ (by subst O;simp<;>omega) ⟨c,b1,_,rfl,rfl,L rfl rfl⟩
def yj{n k:Nat}(h:k<n):jq n (k:Int)=some (k:Int):=by unfold jq;grind
def waj{ι β:Type}{D:Fi ι}{n j:Nat}{K:ι->Int->Wal β}{Q:β->Prop}(h:j<n)(a:Tt D (λi=>K i (j:Int)) Q):Tt D (λi=>ja (jq n (j:Int)) (K i)) Q:=wac _ (yj h) a
def zr{α:Type}{l:Wam α}{k:Nat}(x:α)(h:k<l.length):yy l (k:Int) x=some (l.set k x):=by unfold yy;grind
def mkN{b n:Nat}(a:n<=1000000)(c:b<=1000):mkO b (n:Int)=some n:=by unfold mkO;have d:decide ((n:Nat)<=maxLen)=true:=wdg (by simp[maxLen];omega);have e:decide (b*n<=281474976710656)=true:=wdg (by have:=Nat.mul_le_mul c a;omega);grind
def yw:Wb->Nat
 |[]=>0
 |b::l=>(if b=true then 0 else 1)+yw l
def zgf:∀{l:Wb}{k:Nat},l[k]?=some false->yw (l.set k true)+1=yw l
 |[],k,h=>X
 |b::l,0,h=>by simp at h;subst h;simp[yw];omega
 |b::l,k+1,h=>by have:=zgf (l:=l) (k:=k) X;simp[yw];omega
def emC(r:Wb)(p:jk):Prop:=(∀x∈p.2.1,x.1=true/\r[x.2.1.toNat]?=some true)->r[p.1.toNat]?=some true
def jll(g:jb)(x:jj)(r:Wb)(k:r.length=g.2.1.length)(i:zdg g x):Tn (λj=>Zm j x r) (λb=>b=true↔x.1=true/\r[x.2.1.toNat]?=some true):=by unfold Zm;refine Tt.J (λb=>b=true↔x.1=true/\r[x.2.1.toNat]?=some true) (λl a=>?_) (λs h=>Tt.pure h);refine wab (λc=>?_) (λc=>a _ X);obtain⟨d,e⟩:=i;rw[if_pos c]at e;have f:x.2.1.toNat<r.length:=U;refine wac _ (Qg d (wch f)) (a _ ?_);grind
abbrev GR(g:jb):Prop:=Tn (λnn=>Jh nn g) (λb=>b=true)
def jii(N:Int):∀l a,jx l->(∀x∈l,a<=x/\x<N)->(l.length:Int)<=max 0 (N-a)
 |[],a,_,_=>X
 |x::l,a,d,b=>by
  have c:=wdk.1 d;have e:=b x V;have:=jii N l (x+1) c.2 λy f=>⟨X,(b y X).2⟩
  grind
def jfp(l:Wa)(h:jx l)(N:Nat)(a:∀x∈l,0<=x/\x<(N:Int)):l.length<=N:=by have:=jii N l 0 h a;omega
structure RN(n:Nat)(l:List Int):Prop where
 r:jx l
 b:∀x∈l,0<=x/\x<n
def RN.len{n:Nat}{l:Wa}(h:RN n l):l.length<=n:=jfp l h.r n h.b
def RN.nil(n:Nat):RN n []:=⟨by simp[jx],V⟩
def inF(em:Wb)(al:W7)(t:Int):List jj->Prop
 |[]=>False
 |x::l=>if x.1=true then t∈al.getD x.2.1.toNat []\/(em.getD x.2.1.toNat false=true/\inF em al t l)else t=x.2.1
def zg2{n:Nat}{a b:Wa}(l:n<=1000)(c:RN n a)(d:RN n b):Tn (λe=>zae e a b) (λr=>RN n r/\∀x,x∈r↔x∈a\/x∈b):=by
 have j:=c.len;have k:=d.len;refine Tt.mono (jmc a b U:Tn (λe=>zae e a b) _) λr⟨_,f,i⟩=>⟨⟨i c.r d.r,λx g=>?_⟩,f⟩
 rcases(f x).1 g with h|h;{exact c.b x h};.exact d.b x h
def jst(g:jb)(z:GOk g)(em:Wb)(al:W7)(O:em.length=g.2.1.length)(N:al.length=g.2.1.length)(q:∀l∈al,RN g.1.length l)(its:Wam jj)(Q:its.length<=1000)(u:∀x∈its,zdg g x):
  Tn (λH=>Vu H (some (em,al,())) its) (λr=>RN g.1.length r/\∀t,t∈r↔inF em al t its):=by
 have S:=z.t;unfold Vu zal;refine Tt.J (λr=>RN g.1.length r/\∀t,t∈r↔inF em al t its) (λI D=>?_) (λs B=>Tt.pure B);refine Tt.loop (λm s=>∃k out,k<=its.length/\m=its.length-k/\s=(some (em,al,()),its,(its.length:Int),(k:Int),out)/\RN g.1.length out/\∀t,inF em al t its↔t∈out\/inF em al t (its.drop k)) its.length waa ⟨0,[],U,Wab,rfl,RN.nil _,λt=>V⟩ λm s⟨k,out,P,R,B,A,a⟩ T w=>?_;subst B;dsimp only;refine wad (λc=>?_) (λc=>D.fst _ ⟨A,λt=>?_⟩)
 ·have f:k<its.length:=U;have j:=wcm f;have i:=wcw f;refine Tt.at f ?_;obtain⟨x,G⟩:∃x,its[k]=x:=⟨_,rfl⟩
  rw[G]at j i⊢;rw[i]at a;obtain⟨C,n⟩:=u x j;refine wab (λb=>?_) (λb=>?_)
  ·have b:x.1=false:=X;rw[b]at n;simp[wdr,if_false]at n;refine Waj (zg2 U A ⟨by simp[jx],λy F=>by simp at F;subst F;exact⟨C,n⟩⟩) waa.fst λr⟨o,p⟩=>Tt.pure ⟨o,λt=>?_⟩;rw[p,a];simp[inF,b]
  ·have b:x.1=true:=by simpa using b
   rw[b,if_pos rfl]at n;have d:x.2.1.toNat<al.length:=U;have e:x.2.1.toNat<em.length:=U;refine Tt.b1 (wac _ (Qg C (wch d)) ?_);refine Waj (zg2 U A (q _ (wcm d))) waa.fst λr⟨o,p⟩=>(Tt.b1 (wac _ (Qg C (wch e)) ?_))
   have L:al.getD x.2.1.toNat []=al[x.2.1.toNat]:=X;have M:em.getD x.2.1.toNat false=em[x.2.1.toNat]:=X;refine wab (λh=>D.fst _ ⟨o,λt=>?_⟩) (λh=>Tt.b1 ?_)
   ·have h:em[x.2.1.toNat]=false:=X;rw[p,a];simp[inF,b,List.getD,d,e,h]
   ·have h:em[x.2.1.toNat]=true:=X;rw[wI U U];refine w (its.length-(k+1)) _ U ⟨k+1,r,U,rfl,V,o,λt=>?_⟩;rw[a,p];simp[inF,b,List.getD,d,e,h,or_assoc]
 ·have v:k=its.length:=U;rw[a,v,wed];simp[inF]
def zkb:∀{a r:Wa},jx a->jx r->(∀x∈a,x∈r)->a.length<=r.length/\(r.length<=a.length->a=r)
 |[],r,_,_,_=>⟨V,λh=>by simp at h;simp[h]⟩
 |x::a,[],_,_,h=>by have:=h x V;simp at this
 |x::a,y::r,j,k,h=>by have d:=wdk.1 j;have f:=wdk.1 k;by_cases e:x=y;{subst e;have c:∀z∈a,z∈r:=λz hz=>by{rcases wda.1 (h z (by simp[hz]))with b|b;{have:=d.1 z hz;omega};.exact b};obtain⟨b,g⟩:=zkb d.2 f.2 c;exact⟨W,λi=>by rw[g (by simpa using i)]⟩};.have l:x∈r:=by{rcases wda.1 (h x V)with b|b;{exact absurd b e};.exact b};have m:=f.1 x l;have c:∀z∈x::a,z∈r:=λz hz=>by{rcases wda.1 (h z hz)with b|b;{rcases wda.1 hz with g|g;{omega};.have:=d.1 z g;omega};.exact b};obtain⟨b,_⟩:=zkb j f.2 c;exact⟨by simp at b⊢;omega,λi=>by simp at b i;omega⟩
termination_by a r=>r.length
def Q9(T:Nat):W7->Nat
 |[]=>0
 |l::r=>(T-l.length)+Q9 T r
def zmi{T:Nat}:∀{al:W7}{k:Nat}{o n:Wa},al[k]?=some o->o.length<n.length->n.length<=T->Q9 T (al.set k n)<Q9 T al
 |[],k,o,n,h,_,_=>X
 |l::r,0,o,n,h,a,b=>by simp at h;subst h;simp[Q9];omega
 |l::r,k+1,o,n,h,a,b=>by have:=zmi (al:=r) (k:=k) X a b;simp[Q9];omega
def fiC(em:Wb)(al:W7)(p:jk):Prop:=∀t,inF em al t p.2.1->t∈al.getD p.1.toNat []
def jk0(g:jb)(l:zag g)(its:Wam jj)(v:its.length<=1000000)(h:∀x∈its,zdg g x):Tn (λo=>zdx o g its) (λb=>b=true):=by
 have p:=l.t;have q:=l.r;unfold zdx;refine Tt.loop (λm s=>∃k,k<=its.length/\m=its.length-k/\s=(its,(its.length:Int),(k:Int),g)) its.length waa ⟨0,U,Wab,rfl⟩ λm s⟨k,u,w,e⟩ A i=>?_;subst e;dsimp only;refine wad (λc=>?_) (λc=>Tt.pure rfl);have a:k<its.length:=U;have f:=wcm a;refine Tt.at a ?_;obtain⟨x,n⟩:∃x,its[k]=x:=⟨_,rfl⟩
 rw[n]at f⊢;obtain⟨y,z⟩:=h x f;refine Tt.J (λs=>s=((if x.1=true then(g.2.1.length:Int)else g.1.length),its,(its.length:Int),(k:Int),g,x)) (λB d=>(wab (λc=>d _ X) (λc=>d _ X))) (λs e=>?_);.subst e;dsimp only;refine Tt.J (λs=>s=(its,(its.length:Int),(k:Int),false,g)) (λC j=>?_) (λs e=>?_);{refine Tt.b1 (wae (wc3 U) (j _ ?_));grind};.subst e;dsimp only;refine wae rfl (wai ?_);exact i (its.length-(k+1)) _ U ⟨k+1,U,rfl,V⟩
def z9v(g:jb)(n:zag g)(f:GOk g)(em:Wb)(al:W7)(c:em.length=g.2.1.length)(o:al.length=g.2.1.length)(i:∀l∈al,RN g.1.length l)(k:Tn (λj=>Qc j g) (λr=>r=some (em,al,())))
  (its:Wam jj) (d:its.length<=1000) (a:∀x∈its,zdg g x):Tn (λj=>zo5 j g its) (λr=>RN g.1.length r/\∀t,t∈r↔inF em al t its):=by
 unfold zo5 zo4;refine Waj k waa λr h=>?_;subst h;refine Tt.J (λs=>s=(its,some (em,al,()),false)) (λq e=>?_) (λs p=>?_)
 ·refine wae rfl (Waj (jk0 g n its U a) waa λb m=>?_);subst m;exact e _ rfl
 ·subst p;dsimp only;refine wae rfl (Waj (jst g f em al c o i its d a) waa λr h=>Tt.pure h)
def jpv(g:jb)(u:GOk g)(em:Wb)(G:Tn (λw=>zj w g) (λr=>r=em))(H:em.length=g.2.1.length)(its:Wam jj)(I:its.length<=1000)(p:∀x∈its,zdg g x):
  Tn (λw=>zhm w g its) (λb=>b=true↔∀x∈its,x.1=true/\em[x.2.1.toNat]?=some true):=by
 unfold zhm;refine Waj G waa λr L=>?_;subst L;have M:=u.start;have j:zx9 r=some false:=by
  cases r with
  |nil=>grind
  |cons a l=>rfl
 refine wac _ j (wae rfl ?_);refine Tt.loop (λm s=>∃k,k<=its.length/\m=its.length-k/\s=(r,its,(its.length:Int),(k:Int))/\∀i,i<k->∀x,its[i]?=some x->x.1=true/\r[x.2.1.toNat]?=some true) its.length waa ⟨0,U,U,rfl,λi B=>U⟩ λm s⟨k,R,S,v,A⟩ Y t=>?_;subst v;dsimp only;refine wab (λc=>?_) (λc=>Tt.pure ⟨λ_ x N=>?_,λ_=>rfl⟩)
 ·have c:=wcj c;have d:k<its.length:=U;have e:=wcm d;refine Tt.at d ?_;have o:=wch d;obtain⟨x,D⟩:∃x,its[k]=x:=⟨_,rfl⟩
  rw[D]at e o⊢;obtain⟨O,P⟩:=p x e;refine Tt.J (λs=>∃f,s=(r,its,(its.length:Int),(k:Int),f)/\(f=true->¬(x.1=true/\r[x.2.1.toNat]?=some true))/\(f=false->x.1=true/\r[x.2.1.toNat]?=some true)) (λZ n=>?_) (λs⟨f,v,F,Q⟩=>?_)
  ·refine Tt.b1 (wab (λc=>n _ ⟨true,rfl,λ_ h=>?_,λh=>X⟩) (λc=>?_))
   ·grind
   ·have C:x.1=true:=X;rw[if_pos C]at P;have q:x.2.1.toNat<r.length:=U;refine wae (wc3 U) (wae (wc3 U) ?_);refine wac _ (Qg O (wch q)) (n _ ⟨_,rfl,λh=>?_,λh=>?_⟩)
    ·grind
    grind
  ·subst v;dsimp only;refine wab (λz=>Tt.pure ⟨λh=>X,λh=>absurd (h x e) (F z)⟩) (λz=>wai ?_);refine t (its.length-(k+1)) _ U ⟨k+1,U,rfl,V,λi B y T=>?_⟩
   grind
 ·have c:=wck c;obtain⟨i,B⟩:=wdd N
  grind
def z6q(g:jb)(a:GOk g)(em:Wb)(al:W7)(e:al.length=g.2.1.length)(d:Tn (λb=>Qc b g) (λr=>r=some (em,al,()))):
  Tn (λb=>zet b g) (λr=>r=al):=by
 have c:=a.r;unfold zet;refine Waj d waa λr c=>?_;subst c;refine wae rfl (Tt.b1 (Tt.b1 ?_));dsimp only;refine wac _ (mkN U U) (Tt.b1 ?_);refine wac _ rfl (Tt.pure ?_);simp
def jts(g:jb)(a:GR g):Tn (λd=>zfq d g) (λr=>r=g.1.length):=by unfold zfq;refine Waj a waa λb c=>?_;subst c;exact wae rfl (Tt.pure rfl)
def reC(r:Wb)(p:jk):Prop:=r[p.1.toNat]?=some true->∀x∈p.2.1,x.1=true->r[x.2.1.toNat]?=some true
def jcb{r:Wb}{i q:Nat}(h:r[i]?=some true):(r.set q true)[i]?=some true:=by grind
def RN.up{n m:Nat}{l:Wa}(h:RN n l)(hm:n<=m):RN m l:=⟨h.r,λx a=>by have:=h.b x a;omega⟩
def RN.one{n:Nat}{x:Int}(h0:0<=x)(a:x<n):RN n [x]:=⟨by simp[jx],λy b=>X⟩
def zoh{n:Nat}{a b:Wa}(e:n<=1000)(c:RN n a)(d:RN n b):Tn (λf=>Qe f a b) (λr=>RN n r/\∀x,x∈r↔x∈a\/x∈b):=zg2 e c d
def inT(em:Wb)(al:W7)(B:Wa)(t:Int):List jj->Prop
 |[]=>t∈B
 |x::l=>if x.1=true then t∈al.getD x.2.1.toNat []\/(em.getD x.2.1.toNat false=true/\inT em al B t l)else t=x.2.1
def foC(em:Wb)(al B:W7)(p:jk):Prop:=∀j x,p.2.1[j]?=some x->x.1=true->∀t,inT em al (B.getD p.1.toNat []) t (p.2.1.drop (j+1))->t∈B.getD x.2.1.toNat []
def z9q{B:W7}{z st:Nat}{u:Wa}{t:Int}(hz:z<B.length)(h:∀x∈B[z],x∈u)(a:t∈B.getD st []):t∈(B.set z u).getD st []:=by grind
def zh1{em:Wb}{al:W7}{B:Wa}{t:Int}:∀{its:Wam jj},inT em al B t its↔inF em al t its\/((∀x∈its,x.1=true/\em[x.2.1.toNat]?=some true)/\t∈B)
 |[]=>by simp[inT,inF]
 |x::l=>by have c:=zh1 (em:=em) (al:=al) (B:=B) (t:=t) (its:=l);have b:em.getD x.2.1.toNat false=true↔em[x.2.1.toNat]?=some true:=by{grind};cases a:x.1 with|false=>{simp only[inT,inF,a,wdr,if_false];grind}|true=>simp[inT,inF,a,if_true,b,c,wda,forall_eq_or_imp,true_and];grind
def jdb(g:jb)(x:zag g)(a:GOk g)(em:Wb)(al B:W7)(q:Tn (λh=>zj h g) (λr=>r=em))(d:em.length=g.2.1.length)(y:al.length=g.2.1.length)(k:∀l∈al,RN g.1.length l)(w:Tn (λh=>Qc h g) (λr=>r=some (em,al,())))(o:B.length=g.2.1.length)(i:∀l∈B,RN (g.1.length+1) l)
  (p:jk) (j:p∈g.2.2.1):Tn (λh=>Jm h g B p) (λr=>RN (g.1.length+1) r/\∀t,t∈r↔inT em al (B.getD p.1.toNat []) t p.2.1):=by
 have G:=a.t;have z:=a.len p j;have e:=a.items p j;obtain⟨C,I⟩:=a.left p j;unfold Jm;refine Waj (z9v g x a em al d y k w p.2.1 U e) waa λr⟨m,n⟩=>(Tt.J (λr=>RN (g.1.length+1) r/\∀t,t∈r↔inT em al (B.getD p.1.toNat []) t p.2.1) (λL f=>?_) (λs A=>Tt.pure A))
 refine Waj (jpv g a em q d p.2.1 U e) waa λv H=>(wab (λc=>?_) (λc=>f _ ⟨m.up U,λt=>?_⟩))
 ·have b:p.1.toNat<B.length:=U;refine wac _ (Qg C (wch b)) ?_;refine Waj (zg2 U (m.up U) (i _ (wcm b))) waa λu⟨D,F⟩=>f _ ⟨D,λt=>?_⟩;rw[F,n,zh1]
  grind
 ·rw[n,zh1]
  grind
def jsh{α:Type}{b:Nat}{xs ys:Wam α}(h:(xs.length+ys.length)*b<=140737488355328)(a:xs.length+ys.length<=140737488355328):apO b xs ys=some (xs++ys):=by unfold apO;have c:xs.length+ys.length<=maxLen:=wdt a Wah;grind
def z9x{α:Type}{b:Nat}{xs ys a:Wam α}(h:apO b xs ys=some a):xs.length+ys.length<=maxLen/\(xs.length+ys.length)*b<=140737488355328/\a=xs++ys:=za1 h
def zld{α:Type}(eqb:α->α->Bool)(b:Nat)(m:List (α×Wa))(k:α)(v:Int):Option (List (α×Wa)):=match kIx eqb k (m.map (·.1))with
 |some j=>match m[j]? with
  |some e=>(apO b e.2 [v]).map λa=>m.set j (e.1,a)
  |none=>none
 |none=>(apO b [] [v]).map λa=>m++[(k,a)]
def ple(a b:Int×Int):Wb:=[a.1 == b.1,a.2 == b.2]
def plBeq(a b:Int×Int)(h:(ple a b).all id=true):a=b:=by cases a;cases b;simp[ple,List.all_cons,List.all_nil,Bool.and_true,wco,id,beq_iff_eq]at h;grind
abbrev plq(a b:Int×Int):Bool:=(ple a b).all id
abbrev PM:=List ((Int×Int)×List Int)
def zmd(i left:Int):Wa->PM->Option PM
 |[],m=>some m
 |t::a,m=>(zld plq 8 m (left,t) i).bind (zmd i left a)
def zoq(pr:Nat->Wa):Nat->Wa->PM->Option PM
 |_,[],m=>some m
 |i,a::l,m=>(zmd i a (pr i) m).bind (zoq pr (i+1) l)
def ltP(a b:Int×Int):Prop:=a.1<b.1\/a.1=b.1/\a.2<b.2
instance (a b:Int×Int):Decidable (ltP a b):=by unfold ltP;infer_instance
def znv(a:(Int×Int)×Bool)(e:(Int×Int)×Wa):(Int×Int)×Bool:=if e.2.length<2\/a.2=true/\ltP a.1 e.1 then a else(e.1,true)
def Yl(m:PM):(Int×Int)×Bool:=m.foldl znv ((0,0),false)
def ClP(S:(Int×Int)×Wa->Prop)(r:(Int×Int)×Bool):Prop:=
 (r=((0,0),false)/\∀e,S e->e.2.length<2)\/(r.2=true/\(∃e,S e/\e.1=r.1/\2<=e.2.length)/\∀e,S e->2<=e.2.length->¬ltP e.1 r.1)
def jl3{a b:Int×Int}(c:¬ltP a b)(d:¬ltP b a):a=b:=by unfold ltP at c d;grind
def ClP.step{S:(Int×Int)×Wa->Prop}{r:(Int×Int)×Bool}(h:ClP S r)(e:(Int×Int)×Wa):ClP (λx=>S x\/x=e) (znv r e):=by
 unfold znv;split
 .rename_i b;rcases h with⟨rfl,h⟩|⟨c,⟨x,i,j,k⟩,g⟩
  {have d:e.2.length<2:=X;exact .inl ⟨rfl,λy a=>X⟩}
  .refine .inr ⟨c,⟨x,.inl i,j,k⟩,λy a d=>?_⟩;rcases a with a|rfl;{grind}
   .rcases b with b|⟨_,b⟩
    {omega};.unfold ltP at b⊢;omega
 .rename_i b;have d:2<=e.2.length:=by{omega};refine .inr ⟨rfl,⟨e,.inr rfl,rfl,d⟩,λy a f=>?_⟩;rcases a with a|rfl
  .rcases h with⟨rfl,h⟩|⟨c,_,g⟩
   {grind};.have l:=g y a f;have m:¬ltP r.1 e.1:=λh=>b (.inr ⟨c,h⟩);unfold ltP at l m⊢;grind
  .unfold ltP;simp
def zhx(m:PM):ClP (λe=>e∈m) (Yl m):=by suffices ∀(l:PM)(S:(Int×Int)×Wa->Prop)(r:(Int×Int)×Bool),ClP S r->ClP (λe=>S e\/e∈l) (l.foldl znv r) by{have h:=this m (λ_=>False) ((0,0),false) (.inl ⟨rfl,λe h=>h.elim⟩);have e:(λe=>False\/e∈m)=λe=>e∈m:=V;rw[e]at h;exact h};intro l;induction l with|nil=>{simp}|cons x l a=>intro S r h;have:=a _ _ (h.step x);have e:(λe=>S e\/e∈x::l)=λe=>(S e\/e=x)\/e∈l:=X;grind
def zpu(b:PM)(a:Int×Int):Option Int:=(kIx plq a (b.map (·.1))).bind λj=>(b[j]?).bind λe=>e.2[1]?
def zlk(a:PM):Option ((Int×Int×Int)×Int):=match (Yl a).2 with
 |false=>some ((0,0,0), -1)
 |true=>(zpu a (Yl a).1).map λz=>((15,(Yl a).1.1,(Yl a).1.2),z)
abbrev PE2:=(Int×Int)×List Int
def zmh(a:W7)(e:PE2):W7:=a.set e.1.1.toNat ((a.getD e.1.1.toNat []).set e.1.2.toNat (e.2.headD 0))
def zvo(n w:Nat):W7:=replicate n (replicate w (-1))
def joe(n w:Nat)(m:PM):W7:=m.foldl zmh (zvo n w)
def z4s(n w:Nat)(e:PE2):Prop:=0<=e.1.1/\e.1.1<n/\0<=e.1.2/\e.1.2<w/\e.2≠[]
structure Tab(n w:Nat)(S:PE2->Prop)(ll:List (List Int)):Prop where
 n:ll.length=n
 w:∀(r:Nat)(row:List Int),ll[r]?=some row->row.length=w
 c:∀(r t:Nat)(row:List Int)(z:Int),ll[r]?=some row->row[t]?=some z->(∃e,S e/\e.1=((r:Int),(t:Int))/\z=e.2.headD 0)\/((∀e,S e->e.1≠((r:Int),(t:Int)))/\z=-1)
def z89{n w r:Nat}{row:Wa}(h:(zvo n w)[r]?=some row):row=replicate w (-1):=by unfold zvo at h;grind
def Tab.start(n w:Nat):Tab n w (λ_=>False) (zvo n w):=by refine⟨by simp[zvo],λr row h=>by rw[z89 h];simp,λr t row z a b=>?_⟩;rw[z89 a,wee]at b;grind
def Tab.step{n w:Nat}{S:PE2->Prop}{b:W7}(h:Tab n w S b){e:PE2}(m:z4s n w e):Tab n w (λx=>S x\/x=e) (zmh b e):=by
 obtain⟨s,u,v,y,_⟩:=m;have p:e.1.1.toNat<b.length:=by{rw[h.n];omega};have o:b.getD e.1.1.toNat []=b[e.1.1.toNat]:=X;have q:=h.w _ _ (wch p);unfold zmh;rw[o];refine⟨by simpa using h.n,λr row a=>?_,λr t row z a hz=>?_⟩;{rw[wdl]at a;split at a;{grind};.exact h.w r row a}
 .rw[wdl]at a;split at a
  .rename_i i;(first|(split at a<;>cases a)|cases a)
   rw[wdl]at hz;split at hz;{grind}
   .rename_i k;have g:e.1≠((r:Int),(t:Int)):=λh=>k X;rcases h.c r t _ z X hz with⟨j,d,f,l⟩|⟨d,f⟩
    {grind};grind
  .rename_i i;have g:e.1≠((r:Int),(t:Int)):=λh=>i X;rcases h.c r t row z a hz with⟨j,d,f,l⟩|⟨d,f⟩
   {grind};grind
def jk3{n w:Nat}{m:PM}(a:∀e∈m,z4s n w e):Tab n w (λe=>e∈m) (joe n w m):=by suffices ∀(l:PM)S(b:W7),(∀e∈l,z4s n w e)->Tab n w S b->Tab n w (λe=>S e\/e∈l) (l.foldl zmh b) by{have h:=this m (λ_=>False) (zvo n w) a (Tab.start n w);have e:(λe=>False\/e∈m)=λe=>e∈m:=V;rw[e]at h;exact h};intro l;induction l with|nil=>{simp}|cons x l c=>intro S b a h;have:=c _ _ (λe d=>a e X) (h.step (a x V));grind
abbrev uc(e:(Int×Int)×List Int):ji×List Int×Unit:=((e.1.1,e.1.2,()),e.2,())
abbrev um(m:PM):List (ji×List Int×Unit):=m.map uc
def jfl(a b:Int):∀m,kIx zge (a,b,()) ((um m).map λe=>e.1)=kIx plq (a,b) (m.map (·.1))
 |[]=>rfl
 |e::m=>by have h:zge (a,b,()) (uc e).1=plq (a,b) e.1:=rfl;simp[um,wc7,kIx,h];have:=jfl a b m;grind
def jw3{m:PM}{j:Nat}:(um m)[j]?=(m[j]?).map uc:=by simp[um]
def z59{m:PM}{j:Nat}{e:(Int×Int)×Wa}(h:m[j]?=some e):atL ((um m).map λe=>e.2.1) (j:Int)=some e.2:=z6i (e:=uc e) X
def um_set{m:PM}{j:Nat}{e:(Int×Int)×Wa}:(um m).set j (uc e)=um (m.set j e):=by simp
def jng{β:Type}(m:PM)(a b v:Int)(F:Wam (ji×Wa×Unit)->Wal β):(ja (z9z zge (a,b,()) (um m)) λz=>ja (ja (atL (z.2.map λe=>e.2.1) (z.1:Int)) λf=>apO 8 f [v]) λb1=>ja (z29 z.2 ((z.1:Int).toNat) (z.1:Int) b1) F)=ja (zld plq 8 m (a,b) v) λl=>F (um l):=by unfold z9z zld;rw[jfl];cases k:kIx plq (a,b) (m.map (·.1))with|none=>{have g:(um m++[((a,b,()),[],())]:Wam (ji×Wa×Unit))=um (m++[((a,b),[])]):=V;have h:(m++[((a,b),([]:Wa))])[m.length]?=some ((a,b),[]):=V;have i:(um m).length=m.length:=V;simp only[ja,g,i,z59 h,wcy];cases apO 8 [] [v]with|none=>{rfl}|some z=>simp[wc5];unfold z29;simp}|some j=>obtain⟨x,d,n⟩:=zck k;rw[wcv]at d;obtain⟨e,c,rfl⟩:=wct.1 d;simp only[ja,c,z59 c,wcy];cases apO 8 e.2 [v]with|none=>{rfl}|some z=>simp[wc5];unfold z29;simp_all
def uS(s:(Int×Int)×Bool):Bool×ji:=(s.2,(s.1.1,s.1.2,()))
def cstp_u(e:(Int×Int)×Wa)(s:(Int×Int)×Bool):znm (uc e) (uS s)=uS (znv s e):=by obtain⟨⟨a,b⟩,l⟩:=e;obtain⟨⟨x,y⟩,i⟩:=s;unfold znm znv ltP uS;grind
def z4q{β:Type}(c:Nat)(r:ji)(fin:(Bool×(Wam (ji×Wa×Unit))×ji×ji×Wb)->Wal β)(m:PM):∀k j(s:(Int×Int)×Bool)(mk:Wb),j+k=m.length->mk.length=m.length->∃a,z2f (qn c) fin k j ((uS s).1,um m,r,(uS s).2,mk)=fin ((uS ((m.drop j).foldl znv s)).1,um m,r,(uS ((m.drop j).foldl znv s)).2,a)
 |0,j,s,mk,d,e=>⟨mk,by rw[wds U];rfl⟩
 |k+1,j,s,mk,d,e=>by have b:j<m.length:=U;obtain⟨a,h⟩:=z4q c r fin m k (j+1) (znv s m[j]) (mk.set j true) U X;refine⟨a,?_⟩;rw[wcw b,List.foldl_cons,<- h];show ja (qn c j _) _=_;rw[zjm,zce X,jw3,wch b];simp[wc5,ja];rw[show((uS s).1,(uS s).2)=uS s from rfl,cstp_u]
def jix{m:PM}(h:(m.map (·.1)).Nodup):z4u (eqD qh) ((um m).map λe=>e.1)=true:=by induction m with|nil=>{rfl}|cons e m f=>rw[wc7,wfb]at h;show(List.all _ _ && z4u _ _)=true;rw[wco];refine⟨wdu.2 λy d=>?_,f h.2⟩;obtain⟨z,hz,rfl⟩:=wc6.1 d;obtain⟨w,i,rfl⟩:=wc6.1 hz;have a:e.1≠w.1:=λg=>h.1 X;have:¬(e.1.1=w.1.1/\e.1.2=w.1.2):=λ⟨b,c⟩=>a (Prod.ext b c);show(!(decide (e.1.1=w.1.1) && (decide (e.1.2=w.1.2) && true)))=true;grind
def jh8{β:Type}(d:Nat)(r:ji)(fin:(Bool×(Wam (ji×Wa×Unit))×ji×ji×Wb)->Wal β){m:PM}(h:(m.map (·.1)).Nodup):∃a,zqa J3 (qn d) fin (false,um m,r,(0,0,()),replicate (um m).length false)=fin ((Yl m).2,um m,r,((Yl m).1.1,(Yl m).1.2,()),a):=by obtain⟨a,b⟩:=z4q d r fin m m.length 0 ((0,0),false) (replicate (um m).length false) U V;refine⟨a,?_⟩;rw[wff]at b;have:(uS (m.foldl znv ((0,0),false)))=((Yl m).2,((Yl m).1.1,(Yl m).1.2,())):=rfl;rw[this]at b;rw[<- b];unfold zqa;have c:zvq ⟨3,1,0,1,qh,3,I6,um m,0,replicate (um m).length false⟩=true:=by{unfold zvq;simp only[wci,wet,weu,wco];exact⟨V,jix h⟩};show(match zvq _ with|true=>z2f (qn d) fin (um m).length 0 _|false=>none)=_;rw[c];simp[um,wc0];rfl
def zxl{a b:Int×Int}:plq a b=true↔a=b:=⟨plBeq a b,λh=>by subst h;simp[plq,ple]⟩
def zyu{k:Int×Int}:∀{b:Wam (Int×Int)},kIx plq k b=none->k∉b
 |[],_=>V
 |e::f,h=>by unfold kIx at h;split at h;{grind};.rename_i c;have:=zyu (Option.map_eq_none_iff.1 h);intro d;rcases wda.1 d with a|a;{exact c (zxl.2 a)};grind
structure jbg(C:Int×Int->Int->Prop)(c:Nat)(m:PM):Prop where
 nd:(m.map (·.1)).Nodup
 ne:∀e∈m,e.2≠[]
 len:∀e∈m,e.2.length<=c
 says:∀e∈m,∀i∈e.2,C e.1 i
def zn4(m:PM)(a:Int×Int)(i:Int):Prop:=∃e∈m,e.1=a/\i∈e.2
def add_ok{C:Int×Int->Int->Prop}{c:Nat}{m:PM}{a:Int×Int}{v:Int}(h:jbg C c m)(G:c<=1000000)(I:C a v):∃o,zld plq 8 m a v=some o/\jbg C (c+1) o/\zn4 o a v/\∀b i,zn4 m b i->zn4 o b i:=by unfold zld;cases u:kIx plq a (m.map (·.1))with|none=>{have p:=zyu u;rw[jsh V V];refine⟨m++[(a,[v])],rfl,⟨?_,?_,?_,?_⟩,⟨(a,[v]),V,rfl,V⟩,?_⟩;{rw[wdb,List.nodup_append];refine⟨h.nd,V,λx r y g=>?_⟩;grind};{intro e f;rcases wcu.1 f with d|d;{exact h.ne e d};grind};{intro e f;rcases wcu.1 f with d|d;{have:=h.len e d;omega};grind};{intro e f;rcases wcu.1 f with d|d;{exact h.says e d};grind};.rintro b i ⟨e,f,z,A⟩;exact⟨e,X,z,A⟩}|some j=>obtain⟨x,r,f⟩:=zck u;have f:=zxl.1 f;subst f;rw[wcv]at r;obtain⟨e,l,s⟩:=wct.1 r;have k:=wcq l;have D:=(wcl.1 l).1;have H:=h.len e k;simp only[l];rw[jsh X X];refine⟨m.set j (e.1,e.2++[v]),rfl,⟨?_,?_,?_,?_⟩,⟨(e.1,e.2++[v]),wcq (i:=j) X,s,V⟩,?_⟩;{have:(m.set j (e.1,e.2++[v])).map (·.1)=m.map (·.1):=by{rw[List.map_set];apply wd1;grind};rw[this];exact h.nd};{intro y g;rcases weh g with d|d;{exact h.ne y d};simp_all};{intro y g;rcases weh g with d|d;{have:=h.len y d;omega};grind};{intro y g;rcases weh g with d|d;{exact h.says y d};.subst d;intro i B;rcases wcu.1 B with t|t;{exact h.says e k i t};grind};.rintro b i ⟨y,g,w,F⟩;obtain⟨n,p⟩:=wdd g;by_cases q:j=n;{subst q;rw[l]at p;cases p;exact⟨(e.1,e.2++[v]),wcq (i:=j) X,w,X⟩};.exact⟨y,wcq (i:=n) X,w,F⟩
def z5h{C:Int×Int->Int->Prop}{i left:Int}:∀{ts:Wa}{c:Nat}{m:PM},jbg C c m->c+ts.length<=1000000->(∀t∈ts,C (left,t) i)->∃a,zmd i left ts m=some a/\jbg C (c+ts.length) a/\(∀t∈ts,zn4 a (left,t) i)/\∀b j,zn4 m b j->zn4 a b j
 |[],c,m,h,_,_=>⟨m,rfl,h,V,λ_ _ h=>h⟩
 |t::ts,c,m,h,l,d=>by simp[wdq]at l;obtain⟨v,e,f,r,g⟩:=add_ok h U (d t V);obtain⟨q,o,s,u,p⟩:=z5h (ts:=ts) f U λx n=>d x X;refine⟨q,by simp[zmd,e,wdv,o],X,λx n=>?_,λb j k=>p b j (g b j k)⟩;grind
def z4l{C:Int×Int->Int->Prop}{pr:Nat->Wa}{W:Nat}(q:∀i,(pr i).length<=W):∀{ls:Wa}{i c:Nat}{m:PM},jbg C c m->c+W*ls.length<=1000000->(∀k l,ls[k]?=some l->∀t∈pr (i+k),C (l,t) ((i+k:Nat):Int))->∃g,zoq pr i ls m=some g/\jbg C (c+W*ls.length) g/\(∀k l,ls[k]?=some l->∀t∈pr (i+k),zn4 g (l,t) ((i+k:Nat):Int))/\∀b j,zn4 m b j->zn4 g b j
 |[],i,c,m,h,_,_=>⟨m,rfl,h,V,λ_ _ h=>h⟩
 |a::ls,i,c,m,h,w,p=>by
  have F:=q i;simp[wdq,Nat.mul_add,Nat.mul_one]at w;obtain⟨A,s,d,D,u⟩:=z5h (ts:=pr i) h U λt r=>by{simpa using p 0 a rfl t U};have n:jbg C (c+W) A:=⟨d.nd,d.ne,λe o=>by have:=d.len e o;omega,d.says⟩
  obtain⟨B,y,f,G,z⟩:=z4l q (ls:=ls) (i:=i+1) n U λk l x t r=>by{have:=p (k+1) l X t X;grind};refine⟨B,by simp[zoq,s,wdv,y],⟨f.nd,f.ne,λe o=>by have:=f.len e o;simp[wdq,Nat.mul_add,Nat.mul_one];omega,f.says⟩,λk l x t r=>?_,λb j v=>z b j (u b j v)⟩;cases k with|zero=>{grind}|succ k=>grind
def wbl{ι α:Type}{D:Fi ι}{f g:ι->Wal α}{Q:α->Prop}(h:∀i,f i=g i)(a:Tt D g Q):Tt D f Q:=by have:=funext h;grind
structure jde(g:jb)(beh rows:List (List Int))(m:PM):Prop where
 f:Tn (λnn=>Yh nn g) (λr=>r=beh)
 len:rows.length=g.2.2.1.length
 pr:∀(k:Nat)(p:jk)(l:List Int),g.2.2.1[k]?=some p->rows[k]?=some l->Tn (λnn=>Jm nn g beh p) (λr=>r=l)
 bnd:g.2.2.1.length<=1000000/\∀l∈rows,l.length<=1000000
 go:zoq (λi=>rows.getD i []) 0 (g.2.2.1.map (·.1)) []=some m
def jhh{α:Type}{R:α->Wa->Prop}:∀{ps:Wam α},(∀p∈ps,∃l,R p l)->∃rows:W7,rows.length=ps.length/\∀(k:Nat)p l,ps[k]?=some p->rows[k]?=some l->R p l
 |[],_=>⟨[],rfl,λk p l h=>V⟩
 |p::ps,h=>by obtain⟨l,e⟩:=h p V;obtain⟨rows,c,d⟩:=jhh (ps:=ps) λq b=>h q X;refine⟨l::rows,X,λk q f b a=>?_⟩;grind
def jh5{β:Type}{g:jb}{b rows:W7}{m:PM}(M:jde g b rows m){Q:β->Prop}(A:Nat->Wam (ji×Wa×Unit)->Wal β)(hA:Tn (λF=>A F (um m)) Q):
  Tn (λF=>jm (λ(c,d,e,f,g,h)i=>ifB (decide (f<e)) (ja (atL d f) λj=>ja (Jm F g c j) λk=>jm (λ(l,m,n,o,p,q,r,s,u,v,w)x=>ifB (decide (s<r)) (ja (atL q s) λy=>ja (z9z zge (w.1,y,()) v) λz=>ja (ja (atL (z.2.map λe=>e.2.1) (z.1:Int)) λY=>apO 8 Y [m]) λb1=>ja (z29 z.2 ((z.1:Int).toNat) (z.1:Int) b1) λZ=>ja (some (w64 (s+1))) λJ=>x (l,m,n,o,p,q,r,J,u,Z,w)) (ja (some (w64 (p+1))) λb4=>i (l,n,o,b4,u,v))) F (c,f,d,e,f,k,(k.length:Int),0,g,h,j)) (A F h)) F (b,g.2.2.1,(g.2.2.1.length:Int),0,g,([]:Wam (ji×Wa×Unit)))) Q:=by
 have hb:=M.bnd.1;refine Tt.loop (λk st=>∃(n:Nat)(N:PM),st=(b,g.2.2.1,(g.2.2.1.length:Int),(n:Int),g,um N)/\n<=g.2.2.1.length/\k=g.2.2.1.length-n/\zoq (λi=>rows.getD i []) n ((g.2.2.1.map (·.1)).drop n) N=some m) g.2.2.1.length waa ⟨0,[],rfl,wdz _,rfl,by rw[wff];exact M.go⟩ ?_;rintro k _ ⟨n,N,rfl,hn,rfl,B⟩ nx R;dsimp only;refine wab (λhc=>?_) λhc=>?_
 ·have D:n<g.2.2.1.length:=X;have I:n<rows.length:=by rw[M.len];omega
  have e1:(g.2.2.1.map (·.1)).drop n=(g.2.2.1[n]).1::(g.2.2.1.map (·.1)).drop (n+1):=by rw[wcw X];simp
  have e2:rows.getD n []=rows[n]:=X;have a8:=M.bnd.2 _ (wcm I);rw[e1]at B;obtain⟨S,ha,G⟩:=wdi.1 (show(zmd (n:Int) (g.2.2.1[n]).1 (rows.getD n []) N).bind _=some m from B);rw[e2]at ha;refine Tt.at D (Waj (M.pr n _ _ (wch D) (wch I)) waa.fst λts L=>?_);subst L;refine Tt.loop (λk st=>∃(s:Nat)(O:PM),st=(b,(n:Int),g.2.2.1,(g.2.2.1.length:Int),(n:Int),rows[n],((rows[n]).length:Int),(s:Int),g,um O,g.2.2.1[n])/\s<=(rows[n]).length/\k=(rows[n]).length-s/\zmd (n:Int) (g.2.2.1[n]).1 ((rows[n]).drop s) O=some S) (rows[n]).length waa.fst ⟨0,N,rfl,wdz _,rfl,X⟩ ?_;rintro k2 _ ⟨s,O,rfl,hs,rfl,t⟩ a9 H;dsimp only;refine wab (λP=>?_) λP=>?_
  ·have a:s<(rows[n]).length:=X;refine Tt.at a (wbl (λi=>jng O _ _ _ _) ?_);rw[wcw a]at t;obtain⟨T,h4,h5⟩:=wdi.1 (show(zld plq 8 O ((g.2.2.1[n]).1,(rows[n])[s]) (n:Int)).bind _=some S from t);refine wac T h4 (Tt.b1 ?_);rw[show w64 ((s:Int)+1)=((s+1:Nat):Int) by rw[ztf U U];rfl];exact H _ _ U ⟨s+1,T,rfl,a,rfl,h5⟩
  ·have C:s=(rows[n]).length:=X;subst C;rw[wed]at t;cases t;refine Tt.b1 ?_;rw[show w64 ((n:Int)+1)=((n+1:Nat):Int) by rw[ztf U U];rfl];exact Tt.fst (R _ _ U ⟨n+1,S,rfl,D,rfl,G⟩)
 ·have C:n=g.2.2.1.length:=X;subst C;rw[wds V]at B;cases B;exact Tt.fst hA
def Tt.val{ι α:Type}{D:Fi ι}{f:ι->Wal α}{Q:α->Prop}(h:Tt D f Q):∃r,Tt D f (λx=>x=r)/\Q r:=let ⟨r,a,b⟩:=h;⟨r,⟨r,a,rfl⟩,b⟩
structure Kn(g:jb)(em re:List Bool)(al B:List (List Int)):Prop where
 hE:Tn (λnn=>zj nn g) (λr=>r=em)
 hel:em.length=g.2.1.length
 emc:∀p∈g.2.2.1,emC em p
 hRe:Tn (λnn=>Jj nn g) (λr=>r=re)
 hrl:re.length=g.2.1.length
 rest:re[g.2.2.2.1.toNat]?=some true
 recl:∀p∈g.2.2.1,reC re p
 hK:Tn (λnn=>Qc nn g) (λr=>r=some (em,al,()))
 hl:al.length=g.2.1.length
 hrn:∀l∈al,RN g.1.length l
 fic:∀p∈g.2.2.1,fiC em al p
 hF:Tn (λnn=>Yh nn g) (λr=>r=B)
 hBl:B.length=g.2.1.length
 hBr:∀l∈B,RN (g.1.length+1) l
 hBe:(g.1.length:Int)∈B.getD g.2.2.2.1.toNat []
 foc:∀p∈g.2.2.1,re[p.1.toNat]?=some true->foC em al B p
def plC(g:jb)(em:Wb)(al B:W7)(a:Int×Int)(i:Int):Prop:=∃(k:Nat)(p:jk),i=(k:Int)/\g.2.2.1[k]?=some p/\a.1=p.1/\0<=a.2/\a.2<(g.1.length:Int)+1/\inT em al (B.getD p.1.toNat []) a.2 p.2.1
structure jal(g:jb)(em:List Bool)(al B:List (List Int))(m:PM):Prop where
 pm:jbg (plC g em al B) 1000000 m
 has:∀(k:Nat)(p:jk),g.2.2.1[k]?=some p->∀t,inT em al (B.getD p.1.toNat []) t p.2.1->zn4 m (p.1,t) (k:Int)
def jc3{g:jb}{em re:Wb}{al B:W7}(y:zag g)(j:GOk g)(f:Kn g em re al B):∃rows m,jde g B rows m/\(∀l∈rows,RN (g.1.length+1) l)/\jal g em al B m:=by
 have o:=j.t;have d:=j.p;obtain⟨rows,A,s⟩:=jhh λp d=>(jdb g y j em al B f.hE f.hel f.hl f.hrn f.hK f.hBl f.hBr p d).val;have a:∀l∈rows,RN (g.1.length+1) l:=λl h=>by{obtain⟨i,r⟩:=wdd h;have z:=(wcl.1 r).1;exact(s i _ l (wch U) r).2.1};have n:∀k p,g.2.2.1[k]?=some p->RN (g.1.length+1) (rows.getD k [])/\∀t,t∈rows.getD k []↔inT em al (B.getD p.1.toNat []) t p.2.1:=λk p d=>by{grind};obtain⟨m,w,q,D,_⟩:=z4l (C:=plC g em al B) (pr:=λi=>rows.getD i []) (W:=65) (λi=>by
  simp[List.getD];cases r:rows[i]? with
  |none=>simp
  |some l=>have:=(a l (wcq r)).len;grind) (ls:=g.2.2.1.map (·.1)) (c:=0) (m:=[]) ⟨V,V,V,V⟩ X (λk l h t o=>by
   rw[wcv]at h;obtain⟨p,d,rfl⟩:=wct.1 h;rw[wd0]at o⊢;obtain⟨u,v⟩:=n k p d;have:=u.b t o;exact⟨k,p,rfl,d,rfl,this.1,U,(v t).1 o⟩)
 refine⟨rows,m,⟨f.hF,A,λk p l d h=>(s k p l d h).1,⟨U,λl h=>by have:=(a l h).len;omega⟩,w⟩,a,⟨q.nd,q.ne,λe x=>?_,q.says⟩,λk p d t o=>?_⟩;{have:=q.len e x;grind};grind
def NC(g:jb)(em:Wb)(al B:W7):Prop:=∀(k b:Nat)(p a:jk),g.2.2.1[k]?=some p->g.2.2.1[b]?=some a->p.1=a.1->∀t,inT em al (B.getD p.1.toNat []) t p.2.1->inT em al (B.getD a.1.toNat []) t a.2.1->k=b
def zm6{α β:Type}{f:α->β}:∀{l:Wam α},(l.map f).Nodup->∀{x y:α},x∈l->y∈l->f x=f y->x=y
 |[],_,x,y,d,_,_=>X
 |a::l,h,x,y,d,g,e=>by rw[wc7,wfb]at h;rcases wda.1 d with b|b;{grind};.rcases wda.1 g with c|c;{grind};.exact zm6 h.2 b c e
def nc_of{g:jb}{em:Wb}{al B:W7}{m:PM}(h:jal g em al B m)(u:(Yl m).2=false):NC g em al B:=by
 intro k q p r o c e t j n;obtain⟨x,i,w,z⟩:=h.has k p o t j;obtain⟨y,s,A,C⟩:=h.has q r c t n;have d:=zm6 h.pm.nd i s X;subst d;rcases zhx m with⟨_,f⟩|⟨f,_⟩
 .have:=f x i;match v:x.2 with
  |[]=>grind
  |[a]=>
   grind
  |a::b::l=>grind
 grind
def jfw{g:jb}{em:Wb}{al B:W7}{m:PM}(h:jal g em al B m):∃r,zlk m=some r/\(r.1.1=0->NC g em al B):=by
 unfold zlk;cases k:(Yl m).2 with
 |false=>exact⟨_,rfl,λ_=>nc_of h k⟩
 |true=>
  rcases zhx m with⟨o,_⟩|⟨_,⟨e,f,p,i⟩,_⟩
  {grind};.have:∃z,zpu m (Yl m).1=some z:=by{unfold zpu;cases c:kIx plq (Yl m).1 (m.map (·.1))with|none=>{exact absurd X (zyu c)}|some j=>obtain⟨x,d,a⟩:=zck c;have a:=zxl.1 a;rw[wcv]at d;obtain⟨n,b,l⟩:=wct.1 d;have:=zm6 h.pm.nd (wcq b) f X;subst this;simp[wdv,b];exact⟨_,wch i⟩};simp_all
def jtw{m:PM}{a:Int×Int}:kIx zge (a.1,a.2,()) ((um m).map λe=>e.1)=kIx plq a (m.map (·.1)):=jfl a.1 a.2 m
def jt8{g:jb}{i rows:W7}{m:PM}{r:(Int×Int×Int)×Int}(A:GR g)(s:jde g i rows m)(C:(m.map (·.1)).Nodup)(c:zlk m=some r):Tn (λd=>Qj d g) (λx=>x=((r.1.1,r.1.2.1,r.1.2.2,()),r.2,())):=by
 unfold Qj zgr;refine Waj A waa λb n=>?_;subst n;refine wae rfl (Waj s.f waa λb n=>?_);subst n;refine jh5 s (λd h=>zqa J3 (qn d) _ (false,h,(0,0,()),(0,0,()),replicate h.length false)) ?_;let a:(Bool×(Wam (ji×Wa×Unit))×ji×ji×Wb)->Wal (jc×Int×Unit):=λ(t,k,F,l,G)=>ifB (!t) (some ((0,0,0,()),(-1),())) (ja (kIx zge l (k.map λe=>e.1)) λo=>ja (ja (atL (k.map λe=>e.2.1) (o:Int)) λu=>jq u.length 1) λv=>ja (ja (atL (k.map λe=>e.2.1) (o:Int)) λw=>atL w v) λy=>some ((15,l.1,l.2.1,()),y,()))
 refine wbl (λd=>by
  obtain⟨D,e⟩:=jh8 d (0,0,()) a C;omega) ?_
 show Tt wa0 (λ_=>ifB (!(Yl m).2) _ _) _;unfold zlk at c;cases p:(Yl m).2 with|false=>{rw[p]at c;cases c;exact wah rfl (Tt.pure rfl)}|true=>rw[p]at c;obtain⟨z,hz,rfl⟩:=wct.1 c;unfold zpu at hz;obtain⟨j,H,hz⟩:=wdi.1 hz;obtain⟨e,q,hz⟩:=wdi.1 hz;have B:=(wcl.1 hz).1;refine wae rfl (wac j (by rw[jtw];omega) ?_);refine wac (1:Int) (by rw[z59 q];exact yj B) (wac z (by rw[z59 q];assumption) (Tt.pure rfl))
def z38{β:Type}(f:Nat)(fin:(W7×Wb×(Wam (ji×Wa×Unit)))->Wal β){n w:Nat}{m:PM}(hm:∀e∈m,z4s n w e):∀k j(out:W7)(mk:Wb),j+k=m.length->mk.length=m.length->out.length=n->(∀row∈out,row.length=w)->∃c,z2f (qf f) fin k j (out,mk,um m)=fin ((m.drop j).foldl zmh out,c,um m)
 |0,j,out,mk,q,_,_,_=>⟨mk,by rw[wds U];rfl⟩
 |k+1,j,out,mk,q,r,y,s=>by have b:j<m.length:=U;obtain⟨t,z,u,A,B⟩:=hm _ (wcm b);have g:(m[j]).1.1.toNat<out.length:=U;have i:=s _ (wcm g);obtain⟨v,l,d⟩:∃v l,(m[j]).2=v::l:=by{cases x:(m[j]).2 with|nil=>{grind}|cons v l=>simp};have o:zmh out m[j]=out.set (m[j]).1.1.toNat ((out[(m[j]).1.1.toNat]).set (m[j]).1.2.toNat v):=by{unfold zmh;grind};have a:(zmh out m[j]).length=n/\∀row∈zmh out m[j],row.length=w:=by{grind};obtain⟨c,h⟩:=z38 f fin hm k (j+1) (zmh out m[j]) (mk.set j true) U X a.1 a.2;refine⟨c,?_⟩;rw[wcw b,List.foldl_cons,<- h];show ja (qf f j _) _=_;rw[zj5,zce X,jw3,wch b];simp[wc5,ja,d];have p:atL (v::l) 0=some v:=rfl;simp[p];rw[zp1 (wch g) t u U,o]
def js1{β:Type}(b:Nat)(fin:(W7×Wb×(Wam (ji×Wa×Unit)))->Wal β){n w:Nat}{m:PM}(hm:∀e∈m,z4s n w e)(h:(m.map (·.1)).Nodup):∃a,zqa Je (qf b) fin (zvo n w,replicate (um m).length false,um m)=fin (joe n w m,a,um m):=by
 obtain⟨a,c⟩:=z38 b fin hm m.length 0 (zvo n w) (replicate (um m).length false) U V (by simp[zvo]) (λrow g=>by
  obtain⟨i,d⟩:=wdd g;rw[z89 d];simp)
 refine⟨a,?_⟩;rw[wff]at c;rw[show joe n w m=m.foldl zmh (zvo n w)from rfl,<- c];unfold zqa;have f:zvq ⟨1,1,2,1,qh,3,I6,um m,0,replicate (um m).length false⟩=true:=by{unfold zvq;simp only[wci,wet,weu,wco];exact⟨V,jix h⟩};show(match zvq _ with|true=>z2f (qf b) fin (um m).length 0 _|false=>none)=_;grind
def jn2(g:jb)(m:PM):Prop:=∀e∈m,z4s g.2.1.length (g.1.length+1) e
def jt0{g:jb}{L rows:W7}{m:PM}(hR:GR g)(D:GOk g)(hv:jde g L rows m)(hn:(m.map (·.1)).Nodup)(ht:jn2 g m):Tn (λc=>Jv c g) (λx=>x=if(Yl m).2=true then([],15,())else(joe g.2.1.length (g.1.length+1) m,0,())):=by
 have c8:=D.r;have e0:=D.t;unfold Jv zgl;refine Waj hR waa λb P=>?_;subst P;refine wae rfl (Waj hv.f waa λb P=>?_);subst P;refine jh5 hv (λc h=>zqa Vf (Q4 c) _ (false,h,(0,0,()),(0,0,()),replicate h.length false)) ?_;let y:Nat->(Bool×(Wam (ji×Wa×Unit))×ji×ji×Wb)->Wal (W7×Int×Unit):=λc(e1,e2,e3,e4,e5)=>ifB e1 (some ([],15,())) (ja (some (g.2.1.length:Int)) λe6=>ja (mkO 24 e6) λe7=>jm (λ(e8,w,f0,M,N)f3=>ifB (decide (w<e8)) (ja (some (w64 ((f0.1.length:Int)+1))) λf4=>ja (mkO 8 f4) λf5=>ja (jq N.length w) λf6=>ja (yy N f6 (replicate f5 (0:Int))) λH=>ja (jq H.length w) λf8=>ja (atL H f8) λf9=>ja (atL H f8) λg0=>jm (λ(g1,g2,g3,g4,O,g6,g7,u)g9=>ifB (decide (O<g4)) (ja (jq u.length g1) λh0=>ja (atL u h0) λh1=>ja (ja (atL u h0) λh2=>jq h2.length O) λh3=>ja (ja (atL u h0) λh4=>ja (yy h4 h3 (-1)) λh5=>some (u.set h0.toNat h5)) λh6=>ja (some (w64 (O+1))) λh7=>g9 (g1,g2,g3,g4,h7,g6,g7,h6)) (ja (some (w64 (g3+1))) λh8=>f3 (g2,h8,g6,g7,u))) c (w,e8,w,(g0.length:Int),0,f0,M,H)) (zqa Je (qf c) (λ(J,j7,j8)=>some (J,0,())) (N,(replicate M.length false),M))) c (((replicate e7 ([]:Wa)).length:Int),0,g,e2,(replicate e7 ([]:Wa))))
 refine wbl (λc=>by
  obtain⟨a0,e⟩:=jh8 c (0,0,()) (y c) hn;exact e) ?_
 refine wab (λI=>?_) λI=>?_;{rw[if_pos I];exact Tt.pure rfl};rw[if_neg X];refine Tt.b1 (wac g.2.1.length (mkN U U) ?_);have hw:w64 ((g.1.length:Int)+1)=((g.1.length+1:Nat):Int):=by{rw[ztf U U];rfl};refine Tt.loop (λk st=>∃(n:Nat)(out:W7),st=(((replicate g.2.1.length ([]:Wa)).length:Int),(n:Int),g,um m,out)/\n<=g.2.1.length/\k=g.2.1.length-n/\out.length=g.2.1.length/\∀i,i<n->out[i]?=some (replicate (g.1.length+1) (-1))) g.2.1.length waa ⟨0,_,rfl,wdz _,rfl,V,λi v=>U⟩ ?_;rintro k _ ⟨n,out,rfl,d2,rfl,d3,G⟩ nx S;dsimp only;refine wab (λI=>?_) λI=>?_
 .have R:n<g.2.1.length:=X;have s:n<out.length:=U;refine Tt.b1 (wac (g.1.length+1) (by rw[hw];exact mkN U U) ?_);refine waj s (wac _ (zr _ s) ?_);refine waj X (Tt.at X (Tt.at X ?_));simp only[List.getElem_set_self];refine Tt.loop (λk st=>∃(t:Nat)(l:W7)(row:Wa),st=((n:Int),((replicate g.2.1.length ([]:Wa)).length:Int),(n:Int),((replicate (g.1.length+1) (0:Int)).length:Int),(t:Int),g,um m,l)/\t<=g.1.length+1/\k=g.1.length+1-t/\l.length=g.2.1.length/\(∀i,i<n->l[i]?=some (replicate (g.1.length+1) (-1)))/\l[n]?=some row/\row.length=g.1.length+1/\∀i,i<t->row[i]?=some (-1)) (g.1.length+1) waa.fst
   ⟨0,_,replicate (g.1.length+1) 0,rfl,U,Wab,X,λi v=>X,wen s,V,λi v=>U⟩ ?_
  rintro k2 _ ⟨t,l,row,rfl,d5,rfl,C,a,j,Z,Y⟩ d9 B;have A:=(wcl.1 j).1;dsimp only;refine wad (λz=>?_) λz=>?_;{have d:t<row.length:=X;have o:atL l (n:Int)=some row:=Qg U X;refine waj A (wac _ o (wac (t:Int) (by rw[o];exact yj d) ?_));refine wac (l.set n (row.set t (-1))) (by rw[o];simp[ja,zr (-1) d,wcy]) (Tt.b1 ?_);rw[show w64 ((t:Int)+1)=((t+1:Nat):Int) by rw[ztf U U];rfl];refine B _ _ U ⟨t+1,_,row.set t (-1),rfl,U,rfl,by simpa using C,λi v=>by rw[wev U];exact a i v,wen A,by simpa using Z,λi v=>?_⟩;grind};.have Q:t=g.1.length+1:=by{have:=z;simp at this;omega};refine Tt.b1 ?_;rw[show w64 ((n:Int)+1)=((n+1:Nat):Int) by rw[ztf U U];rfl];refine Tt.fst (S _ _ U ⟨n+1,l,rfl,R,rfl,C,λi v=>?_⟩);rcases Nat.lt_or_ge i n with h|h;{exact a i h};.have:i=n:=U;subst this;rw[j];congr 1;apply wd1 ;intro q;by_cases T:q<g.1.length+1;{rw[Y q U,wee,if_pos T]};.rw[wek U,wek W]
 .have Q:n=g.2.1.length:=X;have F:out=zvo g.2.1.length (g.1.length+1):=by{unfold zvo;apply wd1;intro q;by_cases T:q<g.2.1.length;{rw[G q U,wee,if_pos T]};.rw[wek U,wek W]};subst F;refine wbl (λp=>by
   obtain⟨a0,e⟩:=js1 p.1 (λ((J,j7,j8):W7×Wb×(Wam (ji×Wa×Unit)))=>(some (J,0,()):Wal (W7×Int×Unit))) ht hn;omega) (Tt.pure rfl)
def z4v{g:jb}{em:Wb}{al B:W7}{m:PM}(b:GOk g)(h:jal g em al B m):jn2 g m:=λe c=>by have a:=h.pm.ne e c;obtain⟨i,l,q⟩:∃i l,e.2=i::l:=by{cases o:e.2 with|nil=>{grind}|cons i l=>simp};obtain⟨k,p,_,f,j,d,n,_⟩:=h.pm.says e c i X;obtain⟨r,s⟩:=b.left p (wcq f);exact⟨U,U,d,U,a⟩
def jea(g:jb)(x:jj)(r:Wb)(k:r.length=g.2.1.length)(i:zdg g x):Tn (λj=>Zs j x r) (λb=>b=true↔(x.1=true->r[x.2.1.toNat]?=some true)):=by unfold Zs;refine Tt.J (λb=>b=true↔(x.1=true->r[x.2.1.toNat]?=some true)) (λl a=>?_) (λs h=>Tt.pure h);refine Tt.b1 (wab (λc=>a _ ?_) (λc=>?_));{grind};have c:x.1=true:=X;obtain⟨d,e⟩:=i;rw[if_pos c]at e;have f:x.2.1.toNat<r.length:=U;refine wac _ (Qg d (wch f)) (a _ ?_);grind
end
end Go.Proofs.YtiafpechgjopfaaGreatDoor.T
namespace Go.Proofs.YtiafpechgjopfaaGreatDoor
noncomputable section
open _root_.Go.Proofs.Tryz
set_option maxRecDepth 100000
set_option maxHeartbeats 8000000
set_option linter.unusedVariables false
set_option linter.unusedSimpArgs false
set_option linter.defProp false
open List (replicate range)
open Go Go.RowKit L
inductive Rch(E:Nat->Nat->Prop)(S:Nat->Prop):Nat->Prop
 |base {i:Nat}:S i->Rch E S i
 |step {i j:Nat}:Rch E S i->E i j->Rch E S j
def onB(l:List Bool)(i:Nat):Prop:=l[i]?=some true
def jfq{l:Wam Bool}{i:Nat}(h:onB l i):i<l.length:=(wcl.1 h).1
def Qb{l:Wam Bool}{i j:Nat}(hi:i<l.length):onB (l.set i true) j↔i=j\/onB l j:=by unfold onB;grind
def zxn{n i:Nat}:¬onB (replicate n false) i:=by unfold onB;grind
def offs(l:List Bool):Nat:=l.count false
def z7n(l:Wam Bool):offs l<=l.length:=List.count_le_length
def zmz(b:Bool)(l:Wam Bool):offs (b::l)=offs l+(if b then 0 else 1):=by unfold offs;grind
def zq2:∀{l:Wam Bool}{i:Nat},l[i]?=some false->offs (l.set i true)+1=offs l
 |[],i,h=>X
 |b::l,0,h=>by simp at h;subst h;simp[zmz]
 |b::l,i+1,h=>by simp[List.getElem?_cons_succ]at h;have:=zq2 h;simp[List.set_cons_succ,zmz];omega
def LeB(a b:List Bool):Prop:=a.length=b.length/\∀i,onB a i->onB b i
def LeB.refl(a:Wam Bool):LeB a a:=⟨rfl,λ_ h=>h⟩
def LeB.trans{a b c:Wam Bool}(h:LeB a b)(d:LeB b c):LeB a c:=⟨h.1.trans d.1,λi e=>d.2 i (h.2 i e)⟩
def LeB.set{a:Wam Bool}{i:Nat}(hi:i<a.length):LeB a (a.set i true):=⟨V,λj b=>(Qb hi).2 (.inr b)⟩
def jqc{a b:Wam Bool}(c:a.length=b.length)(h:∀i,onB a i↔onB b i):a=b:=by refine we7 c λi d e=>?_;have:=h i;unfold onB at this;simp_all
def LeB.antisymm{a b:Wam Bool}(h:LeB a b)(c:LeB b a):a=b:=jqc h.1 λi=>⟨h.2 i,c.2 i⟩
def LeB.offs:∀{a b:Wam Bool},LeB a b->a=b\/offs b<offs a:=by
 intro a;induction a with
 |nil=>intro b h;cases b with
  |nil=>simp
  |cons x b=>exact absurd h.1 V
 |cons x a f=>
  intro b h;cases b with
  |nil=>exact absurd h.1 V
  |cons y b=>
   have c:LeB a b:=⟨by simpa using h.1,λi d=>by have:=h.2 (i+1);unfold onB at *;grind⟩
   have h0:x=true->y=true:=λe=>by have:=h.2 0;unfold onB at this;grind
   rw[zmz,zmz]
   grind
def zao(n:Nat)(E:Nat->Nat->Prop)(S:Nat->Prop):List Bool:=by classical exact(range n).map λi=>decide (Rch E S i)
def ze8(n:Nat)(E:Nat->Nat->Prop)(S:Nat->Prop):(zao n E S).length=n:=by unfold zao;simp
def zw8{n:Nat}{E:Nat->Nat->Prop}{S:Nat->Prop}{i:Nat}:onB (zao n E S) i↔i<n/\Rch E S i:=by
 classical
 unfold onB zao;grind
def z82{n:Nat}{E:Nat->Nat->Prop}{S:Nat->Prop}{l:Wam Bool}(a:l.length=n)(b:∀i,onB l i->Rch E S i)(c:∀i,S i->onB l i)(d:∀i j,onB l i->E i j->onB l j):l=zao n E S:=by
 refine jqc (by rw[a,ze8]) λi=>⟨λh=>zw8.2 ⟨a▸jfq h,b i h⟩,λh=>?_⟩
 have:=(zw8.1 h).2;clear h;induction this with|base h=>{grind}|step _ h e=>grind
structure Round(E:Nat->Nat->Prop)(S:Nat->Prop)(a b:List Bool):Prop where
 le:LeB a b
 sound:∀i,onB b i->Rch E S i
 closed:a=b->(∀i,S i->onB a i)/\∀i j,onB a i->E i j->onB a j
def Round.next{n:Nat}{E:Nat->Nat->Prop}{S:Nat->Prop}{a b:Wam Bool}{m k:Nat}(h:Round E S a b)(f:a.length=n)(c:a=zao n E S\/offs a+k<=m):b=zao n E S\/offs b+(k+1)<=m:=by rcases c with c|c;{left;refine h.le.antisymm ⟨h.le.1.symm,λi d=>?_⟩ |>.symm.trans c;rw[c];exact zw8.2 ⟨f▸(h.le.1▸jfq d),h.sound i d⟩};.rcases h.le.offs with e|e;{left;obtain⟨g,j⟩:=h.closed e;subst e;exact z82 f h.sound g j};omega
end
end Go.Proofs.YtiafpechgjopfaaGreatDoor
namespace Go.Proofs.YtiafpechgjopfaaGreatDoor.T
noncomputable section
open _root_.Go.Proofs.Tryz
set_option maxRecDepth 100000
set_option maxHeartbeats 8000000
set_option linter.unusedVariables false
set_option linter.unusedSimpArgs false
set_option linter.defProp false
open List (replicate range)
open Go Go.RowKit L
inductive ReG(g:jb):Nat->Prop
 |start:ReG g g.2.2.2.1.toNat
 |step {p:jk}{x:jj}:p∈g.2.2.1->ReG g p.1.toNat->x∈p.2.1->x.1=true->ReG g x.2.1.toNat
structure ROk(g:jb)(st:Nat)(r:List Bool):Prop where
 a:r[st]?=some true
 b:∀i,r[i]?=some true->ReG g i
def ROk.set{g:jb}{st:Nat}{r:Wb}(h:ROk g st r){p:jk}{x:jj}(j:p∈g.2.2.1)(f:r[p.1.toNat]?=some true)(k:x∈p.2.1)(d:x.1=true){z:Nat}(hz:z=x.2.1.toNat):ROk g st (r.set z true):=by refine⟨jcb h.a,λi c=>?_⟩;rw[wdl]at c;split at c;{rename_i e;subst e;subst hz;exact .step j (h.b _ f) k d};.exact h.b i c
def jg9(g:jb)(hg:zag g)(hR:GR g)(G:GOk g):Tn (λnn=>Jj nn g) (λr=>r.length=g.2.1.length/\r[g.2.2.2.1.toNat]?=some true/\(∀p∈g.2.2.1,reC r p)/\∀i,r[i]?=some true->ReG g i):=by
 unfold Jj;refine Waj hR waa λb hb=>?_;subst hb;refine wae rfl ?_;have hp:=hg.p;refine Tt.b1 (wac _ (mkN hg.r U) ?_);obtain⟨st,a6⟩:∃st:Nat,g.2.2.2.1=st:=⟨g.2.2.2.1.toNat,by have:=G.start;omega⟩
 have e8:=G.start.2;rw[a6];have L:st<(replicate g.2.1.length false).length:=X;refine wac _ (yj L) (wac _ (zr true L) ?_);rw[wcy];have h0:∀i,((replicate g.2.1.length false).set st true)[i]?=some true->ReG g i:=λi h=>by{rw[wdl]at h;split at h;{rename_i e;subst e;have:=ReG.start (g:=g);rwa [a6,wcy]at this};.rw[wee]at h;split at h<;>cases h};refine Tt.loop (λm s=>∃(d:Bool)(r:Wb),m=2*yw r+(if d=true then 1 else 0)/\s=(g.2.2.1,d,r)/\r.length=g.2.1.length/\ROk g st r/\(d=false->∀p∈g.2.2.1,reC r p)) (2*yw ((replicate g.2.1.length false).set st true)+1) waa ⟨true,_,rfl,rfl,V,⟨by rw[wdl];simp at L;simp[L],λi h=>h0 i h⟩,λh=>by cases h⟩ λm s⟨d,r,hm,H,hl,Q,b7⟩ nx a4=>?_;subst H;dsimp only;refine wab (λc=>?_) (λc=>Tt.pure ⟨hl,Q.a,b7 c,Q.b⟩);subst c;rw[if_pos rfl]at hm;refine Tt.loop (λm s=>∃(k:Nat)(d:Bool)(l:Wb),k<=g.2.2.1.length/\m=g.2.2.1.length-k/\s=(g.2.2.1,d,g.2.2.1,(g.2.2.1.length:Int),(k:Int),l)/\l.length=g.2.1.length/\ROk g st l/\(d=true->yw l<yw r)/\(d=false->l=r/\∀i,i<k->∀p,g.2.2.1[i]?=some p->reC r p)) g.2.2.1.length waa.fst ⟨0,false,r,U,Wab,rfl,hl,Q,λh=>X,λ_=>⟨rfl,λi hi=>U⟩⟩ λm2 s⟨k,d,l,hk,e5,H,D,v,ht,hf⟩ ny c4=>?_;subst H;dsimp only;refine wab (λc=>?_) (λc=>?_)
 .have c:=wcj c;have N:k<g.2.2.1.length:=U;have t:g.2.2.1[k]∈g.2.2.1:=wcm N;refine wac _ (atN N) ?_;have Z:g.2.2.1[k]?=some g.2.2.1[k]:=wch N;obtain⟨p,ep⟩:∃p,g.2.2.1[k]=p:=⟨_,rfl⟩
  rw[ep]at t Z⊢;obtain⟨l0,l1⟩:=G.left p t;have b8:=G.items p t;have e7:=G.len p t;obtain⟨q,hq⟩:∃q:Nat,p.1=q:=⟨p.1.toNat,U⟩
  refine Tt.J (λs=>∃(d:Bool)(l:Wb),s=(g.2.2.1,d,g.2.2.1,(g.2.2.1.length:Int),(k:Int),l)/\l.length=g.2.1.length/\ROk g st l/\(d=true->yw l<yw r)/\(d=false->l=r/\∀i,i<k+1->∀p,g.2.2.1[i]?=some p->reC r p)) (λnz a5=>?_) (λs⟨d,l,H,D,v,ht,hf⟩=>?_)
  .refine Tt.loop (λm s=>∃(i:Nat)(f:Bool)(n:Wb),i<=p.2.1.length/\m=p.2.1.length-i/\s=(f,p.2.1,(p.2.1.length:Int),(i:Int),n,p)/\n.length=g.2.1.length/\ROk g st n/\(f=true->yw n<yw l)/\(f=false->n=l/\(l[q]?=some true->∀j,j<i->∀x,p.2.1[j]?=some x->x.1=true->l[x.2.1.toNat]?=some true))) p.2.1.length waa.fst.fst ⟨0,false,l,U,U,rfl,D,v,λh=>X,λ_=>⟨rfl,λ_ j hj=>U⟩⟩ λm3 s⟨i,f,n,hi,e6,H,A,o,I,C⟩ nw c3=>?_;subst H;dsimp only;have P:q<n.length:=U;refine wab (λc=>?_) (λc=>?_)
   .have c:=wcj c;have M:i<p.2.1.length:=U;have R:p.2.1[i]∈p.2.1:=wcm M;have a0:p.2.1[i]?=some p.2.1[i]:=wch M;refine Tt.J (λs=>∃(f:Bool)(n:Wb),s=(f,p.2.1,(p.2.1.length:Int),(i:Int),n,p)/\n.length=g.2.1.length/\ROk g st n/\(f=true->yw n<yw l)/\(f=false->n=l/\(l[q]?=some true->∀j,j<i+1->∀x,p.2.1[j]?=some x->x.1=true->l[x.2.1.toNat]?=some true))) (λnv a3=>?_) (λs⟨f,n,H,A,o,I,C⟩=>?_)
    .refine wac _ (atN M) ?_;obtain⟨x,ex⟩:∃x,p.2.1[i]=x:=⟨_,rfl⟩
     rw[ex]at R a0⊢;obtain⟨i1,i2⟩:=b8 x R;have keep:(n[q]?=some true->x.1=true->n[x.2.1.toNat]?=some true)->(f=false->n=l/\(l[q]?=some true->∀j,j<i+1->∀x,p.2.1[j]?=some x->x.1=true->l[x.2.1.toNat]?=some true)):=λhe c2=>by{obtain⟨T,Y⟩:=C c2;refine⟨T,λw j hj y S a8=>?_⟩;by_cases b9:j<i;{exact Y w j b9 y S a8};.have:j=i:=U;subst this;rw[a0]at S;cases S;rw[<- T]at w⊢;exact he w a8};refine Tt.J (λs=>∃b:Bool,s=(f,p.2.1,(p.2.1.length:Int),(i:Int),b,n,p,x)/\(b=true->x.1=true/\n[x.2.1.toNat]?=some false/\n[q]?=some true)/\(b=false->n[q]?=some true->x.1=true->n[x.2.1.toNat]?=some true)) (λnu O=>?_) (λs⟨b,H,b5,b6⟩=>?_)
     .rw[hq];refine wac _ (yj P) (wac _ (atN P) ?_);refine wab (λc=>?_) (λc=>O _ ⟨false,rfl,λh=>X,λ_ h=>?_⟩)
      .refine wab (λcx=>?_) (λcx=>O _ ⟨false,rfl,λh=>X,λ_ _ h=>?_⟩)
       .rw[if_pos cx]at i2;obtain⟨z,hz⟩:∃z:Nat,x.2.1=z:=⟨x.2.1.toNat,U⟩
        have B:z<n.length:=U;rw[hz];refine wac _ (yj B) (wac _ (atN B) (O _ ⟨_,rfl,λh=>⟨cx,?_,by rw[wch P,c]⟩,λh _ _=>?_⟩));{rw[hz,wcy,wch B];simp at h;rw[h]};grind
       grind
      grind
     .subst H;dsimp only;refine wab (λcb=>?_) (λcb=>a3 _ ⟨f,n,rfl,A,o,I,keep (b6 cb)⟩);obtain⟨b1,b2,b3⟩:=b5 cb;obtain⟨z,hz⟩:∃z:Nat,x.2.1=z:=⟨x.2.1.toNat,U⟩
      rw[hz,wcy]at b2;have B:=(wcl.1 b2).1;rw[hz];refine wac _ (yj B) (wac _ (zr true B) (a3 _ ⟨true,_,rfl,by simpa using A,o.set t (by rw[hq];exact b3) R b1 (by rw[hz];rfl),λ_=>?_,λh=>by cases h⟩));have:=zgf b2;cases a2:f with|true=>{have:=I a2;omega}|false=>have:=(C a2).1;subst this;omega
    .subst H;dsimp only;refine Tt.b1 ?_;rw[wI U U];exact c3 (p.2.1.length-(i+1)) _ U ⟨i+1,f,n,U,rfl,V,A,o,I,C⟩
   .have c:=wck c;refine wab (λcn=>a5.fst _ ⟨true,n,rfl,A,o,λ_=>?_,λh=>by cases h⟩) (λcn=>?_);{have:=I cn;cases F:d with|true=>{have:=ht F;omega}|false=>have:=(hf F).1;subst this;omega};.obtain⟨T,Y⟩:=C cn;subst T;refine a5.fst _ ⟨d,n,rfl,A,o,ht,λc1=>?_⟩;obtain⟨e3,e4⟩:=hf c1;refine⟨e3,λj hj y S=>?_⟩;by_cases c0:j<k;{exact e4 j c0 y S};.have:j=k:=U;subst this;rw[Z]at S;cases S;intro w x hx c6;obtain⟨u,hu⟩:=wdd hx;rw[hq,wcy]at w;rw[<- e3]at w⊢;exact Y w u (by have:=(wcl.1 hu).1;omega) x hu c6
  .subst H;dsimp only;refine Tt.b1 ?_;rw[wI U U];exact c4 (g.2.2.1.length-(k+1)) _ U ⟨k+1,d,l,U,rfl,V,D,v,ht,hf⟩
 .have c:=wck c;cases F:d with
  |true=>have:=ht F;exact Tt.fst (a4 (2*yw l+1) _ U ⟨true,l,rfl,rfl,D,v,λh=>by cases h⟩)
  |false=>
   obtain⟨T,Y⟩:=hf F;subst T;exact Tt.fst (a4 (2*yw l) _ U ⟨false,l,rfl,rfl,D,v,λ_ p hp=>by
    obtain⟨i,hi⟩:=wdd hp;exact Y i (by have:=(wcl.1 hi).1;omega) p hi⟩)
def zbu(g:jb)(f:zei g):Tn (λi=>zg i g) (λb=>b=true↔gFd g=zd):=by unfold zg;refine Waj (zk7 g f) waa λd e=>Tt.pure ?_;subst e;obtain⟨a,b,c,u⟩:=gFd g;constructor;{intro h;simp[zyx]at h;grind};.intro h;cases h;rfl
def zy6{r:Wb}{z:Nat}(h:r[z]?=some true):r.set z true=r:=by apply wd1;grind
def z9a:∀r,yw r<=r.length
 |[]=>by trivial
 |b::r=>by have:=z9a r;unfold yw;grind
structure Psd(r r1:List Bool)(C D:Prop):Prop where
 l:r1.length=r.length
 le:yw r1<=yw r
 eq:yw r1=yw r->r1=r/\D
 cl:C->r1=r
def Psd.set{r a:Wb}{C D:Prop}(h:Psd r a C D){z:Nat}(hz:z<a.length)(f:C->a[z]?=some true){b:Prop}(m:D->r[z]?=some true->b):Psd r (a.set z true) C b:=by by_cases d:a[z]?=some true;{rw[zy6 d];refine⟨h.l,h.le,λe=>?_,h.cl⟩;obtain⟨j,k⟩:=h.eq e;grind};.have g:a[z]?=some false:=by{simp_all};have:=zgf g;have i:=h.le;exact⟨by rw[wd5];exact h.l,U,λe=>U,λc=>absurd (f c) d⟩
def Psd.mono{r a:Wb}{C D b:Prop}(h:Psd r a C D)(c:D->a=r->b):Psd r a C b:=⟨h.l,h.le,λe=>⟨(h.eq e).1,c (h.eq e).2 (h.eq e).1⟩,h.cl⟩
def z8c{r:Wb}{z:Nat}(h:z<r.length):r[z]?=some r[z]:=wch h
def z10(g:jb)(hg:zei g)(hz:gFd g=zd)(t:GOk g):Tn (λnn=>zk nn g) (λr=>r.length=g.2.1.length/\r[g.2.2.2.1.toNat]?=some true/\(∀p∈g.2.2.1,reC r p)/\∀i,r[i]?=some true->ReG g i):=by
 unfold zk;refine Waj (zbu g hg) waa λb hb=>?_;have b6:=hb.2 hz;subst b6;refine wae rfl ?_;have hp:=hg.p;have hr:=hg.r;have d3:=t.r;refine Tt.b1 (wac _ (mkN hg.r U) ?_);obtain⟨st,a6⟩:∃st:Nat,g.2.2.2.1=st:=⟨g.2.2.2.1.toNat,by have:=t.start;omega⟩
 have e4:=t.start.2;rw[a6];have F:st<(replicate g.2.1.length false).length:=X;refine wac _ (yj F) (wac _ (zr true F) ?_);rw[wcy];have hi:ROk g st ((replicate g.2.1.length false).set st true):=by{refine⟨by rw[wdl];simp at F;simp[F],λi h=>?_⟩;rw[wdl]at h;split at h;{rename_i e;subst e;have:=ReG.start (g:=g);rwa [a6,wcy]at this};.rw[wee]at h;split at h<;>cases h};have Z:((replicate g.2.1.length false).set st true).length=g.2.1.length:=V;generalize (replicate g.2.1.length false).set st true=r0 at hi Z⊢;refine Tt.loop (λm s=>∃(k:Nat)(r:Wb),k<=g.2.1.length+1/\m=g.2.1.length+1-k/\s=((k:Int),g,r)/\r.length=g.2.1.length/\ROk g st r/\((∀p∈g.2.2.1,reC r p)\/yw r+k<=g.2.1.length)) (g.2.1.length+1) waa ⟨0,r0,U,U,rfl,Z,hi,.inr (by have:=z9a r0;omega)⟩ λm s⟨k,r,hk,hm,D,hl,N,b7⟩ nx c1=>?_;subst D;dsimp only;refine wab (λc=>?_) (λc=>Tt.pure ⟨hl,N.a,?_,N.b⟩)
 .have c:=wcj c;refine Tt.loop (λm s=>∃(i:Nat)(Q:Wb),i<=g.2.2.1.length/\m=g.2.2.1.length-i/\s=((k:Int),(i:Int),g,Q)/\ROk g st Q/\Psd r Q (∀p∈g.2.2.1,reC r p) (∀(j:Nat)(p:jk),j<i->g.2.2.1[j]?=some p->reC r p)) g.2.2.1.length waa.fst ⟨0,r,U,U,rfl,N,⟨rfl,wcs _,λ_=>⟨rfl,λj p h=>U⟩,λ_=>rfl⟩⟩ λm s⟨i,Q,d7,d9,D,L,v⟩ ny c4=>?_;subst D;dsimp only;refine wab (λS=>?_) (λS=>?_)
  .have S:=wcj S;have M:i<g.2.2.1.length:=U;have d0:=z8c (r:=[]) (z:=0);have T:g.2.2.1[i]?=some g.2.2.1[i]:=wch M;have B:=atN M;have d:g.2.2.1[i]∈g.2.2.1:=wcm M;generalize g.2.2.1[i]=p at T B d;obtain⟨l0,l1⟩:=t.left p d;have b8:=t.items p d;have e3:=t.len p d;obtain⟨q,hq⟩:∃q:Nat,p.1=q:=⟨p.1.toNat,U⟩
   refine Tt.loop (λm s=>∃(j:Nat)(A:Wb),j<=p.2.1.length/\m=p.2.1.length-j/\s=((k:Int),(i:Int),(j:Int),g,A)/\ROk g st A/\Psd r A (∀p∈g.2.2.1,reC r p) ((∀(j:Nat)(p:jk),j<i->g.2.2.1[j]?=some p->reC r p)/\(r[q]?=some true->∀(n:Nat)(x:jj),n<j->p.2.1[n]?=some x->x.1=true->r[x.2.1.toNat]?=some true))) p.2.1.length waa.fst.fst ⟨0,Q,U,U,rfl,L,v.mono λh _=>⟨h,λ_ n x hj=>U⟩⟩ λm s⟨j,A,hj,e0,D,w,f⟩ nz c5=>?_;subst D;dsimp only;have C:q<A.length:=by{rw[f.l];omega};refine Tt.J (λs=>∃b,s=((k:Int),(i:Int),(j:Int),b,g,A)/\(b=true↔A[q]?=some true/\j<p.2.1.length)) (λnw a3=>?_) (λs⟨b,D,hb⟩=>?_);{refine wac _ B ?_;rw[hq];refine wac _ (yj C) (wac _ (atN C) (wab (λI=>wac _ B (a3 _ ⟨_,rfl,?_⟩)) λI=>a3 _ ⟨_,rfl,?_⟩));{rw[z8c C,I];simp};.rw[z8c C,I];simp}
   .subst D;dsimp only;refine wab (λI=>?_) (λI=>?_)
    .obtain⟨O,o⟩:=hb.1 I;have Y:p.2.1[j]?=some p.2.1[j]:=wch o;have G:p.2.1[j]∈p.2.1:=wcm o;refine Tt.J (λs=>∃r3,s=((k:Int),(i:Int),(j:Int),g,r3)/\ROk g st r3/\Psd r r3 (∀p∈g.2.2.1,reC r p) ((∀(j:Nat)(p:jk),j<i->g.2.2.1[j]?=some p->reC r p)/\(r[q]?=some true->∀(n:Nat)(x:jj),n<j+1->p.2.1[n]?=some x->x.1=true->r[x.2.1.toNat]?=some true))) (λnu a2=>?_) (λs⟨r3,D,a5,a4⟩=>?_)
     .refine wac _ B (wac _ (atN o) ?_);generalize p.2.1[j]=x at Y G⊢;obtain⟨i1,i2⟩:=b8 x G;refine wab (λcx=>?_) (λcx=>a2 _ ⟨A,rfl,w,f.mono λh _=>⟨h.1,λR n y a0 hy a7=>?_⟩⟩)
      .rw[if_pos cx]at i2;obtain⟨z,H⟩:∃z:Nat,x.2.1=z:=⟨x.2.1.toNat,U⟩
       have P:z<A.length:=by{rw[f.l];omega};rw[H];refine wac _ (yj P) (wac _ (zr true P) (a2 _ ⟨_,rfl,w.set d (by rw[hq];exact O) G cx (by rw[H];rfl),f.set P (λhc=>?_) (λh c6=>⟨h.1,λR n y a0 hy a7=>?_⟩)⟩));{have e:=f.cl hc;rw[e]at O⊢;have:=hc p d (by rw[hq];exact O) x G cx;rwa [H]at this};.by_cases c0:n<j;{exact h.2 R n y c0 hy a7};.have:n=j:=U;subst this;rw[Y]at hy;cases hy;rw[H];exact c6
      grind
     .subst D;refine Tt.b1 ?_;dsimp only;rw[wI U U];exact c5 (p.2.1.length-(j+1)) _ U ⟨j+1,r3,U,rfl,rfl,a5,a4⟩
    .refine Tt.b1 ?_;rw[wI U U];refine(c4 (g.2.2.1.length-(i+1)) _ U ⟨i+1,A,U,rfl,rfl,w,f.mono λh e n p2 a0 u=>?_⟩).fst;by_cases b9:n<i;{exact h.1 n p2 b9 u};.have:n=i:=U;subst this;rw[T]at u;cases u;intro R x hx c7;rw[hq,wcy]at R;have o:¬j<p.2.1.length:=λo=>by{rw[hb.2 ⟨by rw[e];exact R,o⟩]at I;cases I};obtain⟨j3,a1⟩:=wdd hx;exact h.2 R j3 x (by have:=(wcl.1 a1).1;omega) a1 c7
  .have S:=wck S;refine Tt.b1 ?_;rw[wI U U];refine(c1 (g.2.1.length+1-(k+1)) _ U ⟨k+1,Q,U,rfl,rfl,by rw[v.l];exact hl,L,?_⟩).fst;by_cases he:yw Q=yw r;{obtain⟨e1,e2⟩:=v.eq he;left;intro p u;rw[e1];obtain⟨j,hj⟩:=wdd u;exact e2 j p (by have:=(wcl.1 hj).1;omega) hj};.have d8:=v.le;rcases b7 with h|h;{exact absurd (by rw[v.cl h]) he};.right;omega
 grind
inductive MkG(tk:Bool)(g:jb):Nat->Prop
 |mk {p:jk}:p∈g.2.2.1->(∀x∈p.2.1,x.1=true->MkG tk g x.2.1.toNat)->(∀x∈p.2.1,x.1=false->tk=true)->MkG tk g p.1.toNat
def MSn(a:Bool)(g:jb)(r:Wb):Prop:=∀i:Nat,r[i]?=some true->MkG a g i
def IPt(a:Bool)(r:Wb)(x:jj):Prop:=(x.1=true->r[x.2.1.toNat]?=some true)/\(x.1=false->a=true)
def mkT(a:Bool)(r:Wb)(p:jk):Prop:=(∀x∈p.2.1,IPt a r x)->r[p.1.toNat]?=some true
def MSn.nil(a:Bool){g:jb}(n:Nat):MSn a g (replicate n false):=λi h=>by grind
def MSn.set{f:Bool}{g:jb}{r:Wb}(h:MSn f g r){p:jk}(j:p∈g.2.2.1)(a:∀x∈p.2.1,IPt f r x){z:Nat}(hz:z=p.1.toNat):MSn f g (r.set z true):=λi b=>by rw[wdl]at b;split at b;{rename_i e;subst e;subst hz;exact .mk j (λx c d=>h _ ((a x c).1 d)) λx c=>(a x c).2};.exact h i b
def item1T(g:jb)(x:jj)(r:Wb)(c:r.length=g.2.1.length)(d:zdg g x):Tn (λe=>Zs e x r) (λb=>b=true↔IPt true r x):=by refine(jea g x r c d).mono λb a=>a.trans ?_;unfold IPt;simp
def item1F(g:jb)(x:jj)(r:Wb)(c:r.length=g.2.1.length)(d:zdg g x):Tn (λe=>Zm e x r) (λb=>b=true↔IPt false r x):=by refine(jll g x r c d).mono λb a=>a.trans ?_;unfold IPt;grind
def jr4(g:jb)(hg:zag g)(hR:GR g)(A:GOk g):Tn (λnn=>Yi nn g) (λr=>r.length=g.2.1.length/\(∀p∈g.2.2.1,mkT true r p)/\MSn true g r):=by
 unfold Yi;refine Tt.J (λr=>r.length=g.2.1.length/\(∀p∈g.2.2.1,mkT true r p)/\MSn true g r) (λb6 h2=>?_) (λs u=>Tt.pure u);refine Waj hR waa λb M=>?_;subst M;refine wae rfl ?_;have hp:=hg.p;refine Tt.b1 (wac _ (mkN hg.r U) ?_);refine Tt.loop (λm s=>∃(a:Bool)(r:Wb),m=2*yw r+(if a=true then 1 else 0)/\s=(g.2.2.1,a,r)/\r.length=g.2.1.length/\MSn true g r/\(a=false->∀p∈g.2.2.1,mkT true r p)) (2*yw (replicate g.2.1.length false)+1) waa ⟨true,_,rfl,rfl,V,MSn.nil _ _,λh=>X⟩ λm s⟨a,r,hm,u,hl,H,Q⟩ nx G=>?_;subst u;dsimp only;refine wab (λc=>?_) (λc=>h2.fst _ ⟨hl,Q c,H⟩);subst c;rw[if_pos rfl]at hm;refine Tt.loop (λm s=>∃(k:Nat)(a:Bool)(d:Wb),k<=g.2.2.1.length/\m=g.2.2.1.length-k/\s=(g.2.2.1,a,g.2.2.1,(g.2.2.1.length:Int),(k:Int),d)/\d.length=g.2.1.length/\MSn true g d/\(a=true->yw d<yw r)/\(a=false->d=r/\∀i,i<k->∀p,g.2.2.1[i]?=some p->mkT true r p)) g.2.2.1.length waa.fst ⟨0,false,r,U,Wab,rfl,hl,H,λh=>(by cases h),λ_=>⟨rfl,λi F=>U⟩⟩ λm2 s⟨k,a,d,hk,b2,u,f,e,B,D⟩ ny a1=>?_;subst u;dsimp only;refine wab (λc=>?_) (λc=>?_)
 .have c:=wcj c;have y:k<g.2.2.1.length:=U;have l:g.2.2.1[k]∈g.2.2.1:=wcm y;refine wac _ (atN y) ?_;have C:g.2.2.1[k]?=some g.2.2.1[k]:=wch y;obtain⟨p,ep⟩:∃p,g.2.2.1[k]=p:=⟨_,rfl⟩
  rw[ep]at l C⊢;obtain⟨l0,l1⟩:=A.left p l;have S:=A.items p l;have b4:=A.len p l;obtain⟨q,N⟩:∃q:Nat,p.1=q:=⟨p.1.toNat,U⟩
  have o:q<d.length:=U;refine Tt.J (λs=>∃(a:Bool)(d:Wb),s=(g.2.2.1,a,g.2.2.1,(g.2.2.1.length:Int),(k:Int),d)/\d.length=g.2.1.length/\MSn true g d/\(a=true->yw d<yw r)/\(a=false->d=r/\∀i,i<k+1->∀p,g.2.2.1[i]?=some p->mkT true r p)) (λnz z=>?_) (λs⟨a,d,u,f,e,B,D⟩=>?_);{have keep:mkT true d p->(a=false->d=r/\∀i,i<k+1->∀p,g.2.2.1[i]?=some p->mkT true r p):=λhe Z=>by{obtain⟨L,O⟩:=D Z;refine⟨L,λi F x v=>?_⟩;by_cases R:i<k;{exact O i R x v};.have:i=k:=U;subst this;rw[C]at v;cases v;rw[<- L];exact he};rw[N];refine wac _ (yj o) (wac _ (atN o) ?_);refine wab (λc=>z _ ⟨a,d,rfl,f,e,B,keep λ_=>?_⟩) (λc=>?_);{rw[N,wcy,wch o,c]};.have a2:d[q]?=some false:=by{rw[wch o,c]};refine Tt.loop (λm s=>∃i:Nat,i<=p.2.1.length/\m=p.2.1.length-i/\s=(p.2.1,(p.2.1.length:Int),(i:Int),d,p)/\∀(j:Nat)(x:jj),j<i->p.2.1[j]?=some x->IPt true d x) p.2.1.length waa.fst.fst ⟨0,U,U,rfl,λj x h=>U⟩ λm3 s⟨i,F,b3,u,n⟩ nw a0=>?_;subst u;dsimp only;refine wab (λc=>?_) (λc=>?_);{have c:=wcj c;have w:i<p.2.1.length:=U;have I:p.2.1[i]∈p.2.1:=wcm w;refine wac _ (atN w) (Waj (item1T g _ d f (S _ I)) waa.fst.fst.fst λb M=>?_);refine wab (λcb=>z.fst _ ⟨a,d,rfl,f,e,B,keep λn=>?_⟩) (λP=>Tt.b1 ?_);{have:=M.2 (n _ I);rw[this]at cb;cases cb};.rw[wI U U];refine a0 (p.2.1.length-(i+1)) _ U ⟨i+1,U,rfl,rfl,λj x T v=>?_⟩;by_cases Y:j<i;{exact n j x Y v};.have:j=i:=U;subst this;rw[wch w]at v;cases v;exact M.1 (by simpa using P)};.rw[N];refine wac _ (yj o) (wac _ (zr true o) (z.fst _ ⟨true,_,rfl,by simpa using f,e.set l (λx v=>?_) (by rw[N];rfl),λ_=>?_,λh=>by cases h⟩));{have c:=wck c;obtain⟨j,T⟩:=wdd v;exact n j x (by have:=(wcl.1 T).1;omega) T};have:=zgf a2;cases t:a with|true=>{have:=B t;omega}|false=>have:=(D t).1;subst this;omega};.subst u;dsimp only;refine Tt.b1 ?_;rw[wI U U];exact a1 (g.2.2.1.length-(k+1)) _ U ⟨k+1,a,d,U,rfl,V,f,e,B,D⟩
 .have c:=wck c;cases t:a with
  |true=>have:=B t;exact Tt.fst (G (2*yw d+1) _ U ⟨true,d,rfl,rfl,f,e,λh=>by cases h⟩)
  |false=>
   obtain⟨L,O⟩:=D t;subst L;exact Tt.fst (G (2*yw d) _ U ⟨false,d,rfl,rfl,f,e,λ_ p hp=>by
    obtain⟨i,F⟩:=wdd hp;exact O i (by have:=(wcl.1 F).1;omega) p F⟩)
def jpi(g:jb)(hg:zag g)(hR:GR g)(v:GOk g):Tn (λnn=>zj nn g) (λr=>r.length=g.2.1.length/\(∀p∈g.2.2.1,mkT false r p)/\MSn false g r):=by
 unfold zj;refine Tt.J (λr=>r.length=g.2.1.length/\(∀p∈g.2.2.1,mkT false r p)/\MSn false g r) (λb4 h2=>?_) (λs o=>Tt.pure o);refine Waj hR waa λb Z=>?_;subst Z;refine wae rfl ?_;have hp:=hg.p;refine Tt.b1 (wac _ (mkN hg.r U) ?_);refine Tt.loop (λm s=>∃a r,m=2*yw r+(if a=true then 1 else 0)/\s=(g.2.2.1,a,r)/\r.length=g.2.1.length/\MSn false g r/\(a=false->∀p∈g.2.2.1,mkT false r p)) (2*yw (replicate g.2.1.length false)+1) waa ⟨true,_,rfl,rfl,V,MSn.nil _ _,λh=>X⟩ λm s⟨a,r,hm,o,hl,F,L⟩ nx D=>?_;subst o;dsimp only;refine wab (λc=>?_) (λc=>h2.fst _ ⟨hl,L c,F⟩);subst c;rw[if_pos rfl]at hm;refine Tt.loop (λm s=>∃k a d,k<=g.2.2.1.length/\m=g.2.2.1.length-k/\s=(g.2.2.1,a,g.2.2.1,(g.2.2.1.length:Int),(k:Int),d)/\d.length=g.2.1.length/\MSn false g d/\(a=true->yw d<yw r)/\(a=false->d=r/\∀i,i<k->∀p,g.2.2.1[i]?=some p->mkT false r p)) g.2.2.1.length waa.fst ⟨0,false,r,U,U,rfl,hl,F,λh=>(by cases h),λ_=>⟨rfl,λi A=>U⟩⟩ λm2 s⟨k,a,d,hk,a9,o,l,e,G,H⟩ ny Q=>?_;subst o;dsimp only;refine wab (λc=>?_) (λc=>?_)
 .have c:=wcj c;have t:k<g.2.2.1.length:=U;have f:=wcm t;refine Tt.at t ?_;have y:=wch t;obtain⟨p,ep⟩:∃p,g.2.2.1[k]=p:=⟨_,rfl⟩
  rw[ep]at f y⊢;obtain⟨l0,l1⟩:=v.left p f;have N:=v.items p f;have b2:=v.len p f;obtain⟨q,R⟩:∃q:Nat,p.1=q:=⟨p.1.toNat,U⟩
  have n:q<d.length:=U;refine Tt.J (λs=>∃a d,s=(g.2.2.1,a,g.2.2.1,(g.2.2.1.length:Int),(k:Int),d)/\d.length=g.2.1.length/\MSn false g d/\(a=true->yw d<yw r)/\(a=false->d=r/\∀i,i<k+1->∀p,g.2.2.1[i]?=some p->mkT false r p)) (λnz u=>?_) (λs⟨a,d,o,l,e,G,H⟩=>?_);{have keep:mkT false d p->(a=false->d=r/\∀i,i<k+1->∀p,g.2.2.1[i]?=some p->mkT false r p):=λhe O=>by{obtain⟨Y,I⟩:=H O;refine⟨Y,λi A x w=>?_⟩;by_cases M:i<k;{exact I i M x w};.have:i=k:=U;subst this;rw[y]at w;cases w;rwa [<- Y]};rw[R];refine waj n (Tt.at n ?_);refine wab (λc=>u _ ⟨a,d,rfl,l,e,G,keep λ_=>?_⟩) (λc=>?_);{rw[R,wcy,wch n,c]};.have S:d[q]?=some false:=by{rw[wch n,c]};refine Tt.loop (λm s=>∃i,i<=p.2.1.length/\m=p.2.1.length-i/\s=(p.2.1,(p.2.1.length:Int),(i:Int),d,p)/\∀j x,j<i->p.2.1[j]?=some x->IPt false d x) p.2.1.length waa.fst.fst ⟨0,U,Wab,rfl,λj x h=>U⟩ λm3 s⟨i,A,b0,o,z⟩ nw P=>?_;subst o;dsimp only;refine wad (λc=>?_) (λc=>?_);{have B:i<p.2.1.length:=U;have T:=wcm B;refine Tt.at B (Waj (item1F g _ d l (N _ T)) waa.fst.fst.fst λb Z=>?_);refine wab (λcb=>u.fst _ ⟨a,d,rfl,l,e,G,keep λz=>?_⟩) (λa6=>Tt.b1 ?_);{grind};.rw[wI U U];refine P (p.2.1.length-(i+1)) _ U ⟨i+1,U,rfl,rfl,λj x hj w=>?_⟩;grind};.rw[R];refine waj n (wac _ (zr true n) (u.fst _ ⟨true,_,rfl,X,e.set f (λx w=>?_) U,λ_=>?_,λh=>X⟩));{obtain⟨j,hj⟩:=wdd w;grind};have:=zgf S;grind};.subst o;dsimp only;refine wai ?_;exact Q (g.2.2.1.length-(k+1)) _ U ⟨k+1,a,d,U,rfl,V,l,e,G,H⟩
 .have c:=wck c;cases C:a with
  |true=>have:=G C;exact Tt.fst (D (2*yw d+1) _ U ⟨true,d,rfl,rfl,l,e,λh=>by cases h⟩)
  |false=>
   obtain⟨rfl,I⟩:=H C;exact Tt.fst (D (2*yw d) _ U ⟨false,d,rfl,rfl,l,e,λ_ p hp=>by
    obtain⟨i,A⟩:=wdd hp;exact I i (by have:=(wcl.1 A).1;omega) p A⟩)
def jht(g:jb)(l:Wam jj)(r:Wb)(i:Bool)(G:l.length<=1000000)(I:r.length=g.2.1.length)(z:∀x∈l,zdg g x):Tn (λC=>ze3 C l r i) (λb=>b=true↔∀x∈l,IPt i r x):=by unfold ze3;refine Tt.loop (λm s=>∃k,k<=l.length/\m=l.length-k/\s=(l,r,i,(k:Int))/\∀j x,j<k->l[j]?=some x->IPt i r x) l.length waa ⟨0,U,U,rfl,λj x h=>U⟩ λm s⟨k,F,H,q,u⟩ M p=>?_;subst q;dsimp only;refine wad (λc=>?_) (λc=>Tt.pure ?_);{have e:k<l.length:=U;have a:=atN e;have n:=wch e;have d:=wcm e;generalize l[k]=x at a n d;obtain⟨A,B⟩:=z x d;refine Tt.J (λs=>∃b,s=(l,r,i,(k:Int),b)/\(b=true↔¬IPt i r x)) (λN f=>?_) (λs⟨b,q,D⟩=>?_);{refine wac _ a (Tt.b1 ?_);cases o:x.1 with|false=>{refine wah rfl ?_;cases i with|false=>{exact wah rfl (f _ ⟨_,rfl,by unfold IPt;grind⟩)}|true=>refine wae rfl (wac _ a ?_);rw[o];exact wae rfl (f _ ⟨_,rfl,by unfold IPt;grind⟩)}|true=>rw[if_pos o]at B;refine wae rfl (wac _ a ?_);rw[o];refine wah rfl (wac _ a ?_);have hz:x.2.1.toNat<r.length:=U;refine wac _ (Qg A (wch hz)) (f _ ⟨_,rfl,?_⟩);unfold IPt;grind};.subst q;dsimp only;refine wab (λv=>Tt.pure ?_) λv=>Tt.b1 ?_;{grind};.rw[wI U U];refine p (l.length-(k+1)) _ U ⟨k+1,U,rfl,rfl,λj y w L=>?_⟩;grind};.simp only[true_iff];intro x t;obtain⟨j,w⟩:=wdd t;grind
def zuv(g:jb)(G:zei g)(hz:gFd g=zd)(t:GOk g)(d:Bool):Tn (λnn=>zee nn g d) (λr=>r.length=g.2.1.length/\(∀p∈g.2.2.1,mkT d r p)/\MSn d g r):=by
 unfold zee zh6;refine Waj (zbu g G) waa λb H=>?_;have I:=H.2 hz;subst I;refine wae rfl ?_;have hp:=G.p;have hr:=G.r;have Y:=t.r;refine Tt.b1 (wac _ (mkN G.r U) ?_);refine Tt.loop (λm s=>∃k r,k<=g.2.1.length+1/\m=g.2.1.length+1-k/\s=(d,(k:Int),g,r)/\r.length=g.2.1.length/\MSn d g r/\((∀p∈g.2.2.1,mkT d r p)\/yw r+k<=g.2.1.length)) (g.2.1.length+1) waa ⟨0,_,U,Wab,rfl,V,MSn.nil _ _,.inr (by have:=z9a (replicate g.2.1.length false);grind)⟩ λm s⟨k,r,hk,hm,B,hl,C,L⟩ nx O=>?_;subst B;dsimp only;refine wad (λc=>?_) (λc=>Tt.pure ⟨hl,?_,C⟩)
 .refine Tt.loop (λm s=>∃i o,i<=g.2.2.1.length/\m=g.2.2.1.length-i/\s=(d,(k:Int),(i:Int),g,o)/\MSn d g o/\Psd r o (∀p∈g.2.2.1,mkT d r p) (∀j p,j<i->g.2.2.1[j]?=some p->mkT d r p)) g.2.2.1.length waa.fst ⟨0,r,U,U,rfl,C,⟨rfl,wcs _,λ_=>⟨rfl,λj p h=>U⟩,λ_=>rfl⟩⟩ λm s⟨i,o,a1,a6,B,n,f⟩ ny P=>?_;subst B;dsimp only;refine wad (λZ=>?_) (λZ=>?_)
  .have w:i<g.2.2.1.length:=U;have M:=wch w;have v:=atN w;have a:=wcm w;generalize g.2.2.1[i]=p at M v a;obtain⟨l0,l1⟩:=t.left p a;have N:=t.items p a;have a7:=t.len p a;obtain⟨q,hq⟩:∃q:Nat,p.1=q:=⟨p.1.toNat,U⟩
   have Q:o.length=g.2.1.length:=by{rw[f.l];omega};have x:q<o.length:=U;refine Tt.J (λs=>∃F,s=(d,(k:Int),(i:Int),g,F)/\MSn d g F/\Psd r F (∀p∈g.2.2.1,mkT d r p) (∀j p,j<i+1->g.2.2.1[j]?=some p->mkT d r p)) (λnz y=>?_) (λs⟨F,B,D,A⟩=>?_);{have ext:mkT d r p->(∀j p,j<i->g.2.2.1[j]?=some p->mkT d r p)->∀j p,j<i+1->g.2.2.1[j]?=some p->mkT d r p:=λhm h j p2 hj z=>by{grind};refine wac _ v (Waj (jht g p.2.1 o d U Q N) waa.fst.fst λb H=>?_);refine wab (λR=>?_) λR=>y _ ⟨o,rfl,n,f.mono λh e=>ext (λu=>?_) h⟩;{have u:=H.1 R;refine wac _ v ?_;rw[hq];refine waj x (wac _ (zr true x) (y _ ⟨_,rfl,n.set a u U,f.set x (λS=>?_) λh a9=>ext (λ_=>X) h⟩));have e:=f.cl S;have:=S p a X;grind};grind};.subst B;refine Tt.b1 ?_;dsimp only;rw[wI U U];exact P (g.2.2.1.length-(i+1)) _ U ⟨i+1,F,U,rfl,rfl,D,A⟩
  .refine wai ?_;refine(O (g.2.1.length+1-(k+1)) _ U ⟨k+1,o,U,rfl,rfl,by rw[f.l];omega,n,?_⟩).fst;by_cases T:yw o=yw r;{obtain⟨e1,e2⟩:=f.eq T;left;intro p z;rw[e1];obtain⟨j,hj⟩:=wdd z;grind};.have a4:=f.le;rcases L with h|h;{exact absurd (by rw[f.cl h]) T};omega
 grind
def z4w{n:Nat}{a b:Wb}(g:a.length=n)(j:b.length=n)(h:∀i:Nat,a[i]?=some true↔b[i]?=some true):a=b:=by apply we7 U;intro i e f;have:=h i;rw[wch e,wch f]at this;cases c:a[i]<;>cases d:b[i]<;>simp[c,d]at this⊢
def jn7{g:jb}{r:Wb}(h0:r[g.2.2.2.1.toNat]?=some true)(b:∀p∈g.2.2.1,reC r p){i:Nat}(h:ReG g i):r[i]?=some true:=by induction h with|start=>{omega}|step c _ d a e=>exact b _ c e _ d a
def jo3{b:Bool}{g:jb}{r:Wb}(d:∀p∈g.2.2.1,mkT b r p){i:Nat}(h:MkG b g i):r[i]?=some true:=by induction h with|mk e _ c f=>exact d _ e λx a=>⟨f x a,c x a⟩
def jb4{g:jb}{a b:Wb}(c:a.length=g.2.1.length/\a[g.2.2.2.1.toNat]?=some true/\(∀p∈g.2.2.1,reC a p)/\∀i,a[i]?=some true->ReG g i)(d:b.length=g.2.1.length/\b[g.2.2.2.1.toNat]?=some true/\(∀p∈g.2.2.1,reC b p)/\∀i,b[i]?=some true->ReG g i):a=b:=
 z4w c.1 d.1 λi=>⟨λh=>jn7 d.2.1 d.2.2.1 (c.2.2.2 i h),λh=>jn7 c.2.1 c.2.2.1 (d.2.2.2 i h)⟩
def jc2{c:Bool}{g:jb}{a b:Wb}(d:a.length=g.2.1.length/\(∀p∈g.2.2.1,mkT c a p)/\MSn c g a)(e:b.length=g.2.1.length/\(∀p∈g.2.2.1,mkT c b p)/\MSn c g b):a=b:=
 z4w d.1 e.1 λi=>⟨λh=>jo3 e.2.1 (d.2.2 i h),λh=>jo3 d.2.1 (e.2.2 i h)⟩
inductive FiL(em:List Bool)(ps:List jk)(t:Int):List jj->Prop
 |tok {x:jj}{l:List jj}:x.1=false->t=x.2.1->FiL em ps t (x::l)
 |rule {x:jj}{l:List jj}{p:jk}:x.1=true->p∈ps->p.1.toNat=x.2.1.toNat->FiL em ps t p.2.1->FiL em ps t (x::l)
 |skip {x:jj}{l:List jj}:x.1=true->em.getD x.2.1.toNat false=true->FiL em ps t l->FiL em ps t (x::l)
def FiG(em:Wb)(ps:List jk)(i:Nat)(t:Int):Prop:=∃p,p∈ps/\p.1.toNat=i/\FiL em ps t p.2.1
def FSn(g:jb)(em:Wb)(al:W7):Prop:=∀(i:Nat)(t:Int),t∈al.getD i []->FiG em g.2.2.1 i t
structure FRn(g:jb)(em:List Bool)(al:List (List Int)):Prop where
 r:∀l∈al,RN g.1.length l
 s:FSn g em al
def FSn.nil{g:jb}{em:Wb}(n:Nat):FSn g em (replicate n []):=λi t h=>by grind
def FSn.inF{g:jb}{em:Wb}{al:W7}(h:FSn g em al){t:Int}:∀{its:Wam jj},inF em al t its->FiL em g.2.2.1 t its
 |[],a=>by cases a
 |x::l,a=>by
  unfold T.inF at a;by_cases b:x.1=true
  .rw[if_pos b]at a;rcases a with c|⟨c,d⟩
   {obtain⟨p,i,e,f⟩:=h _ _ c;exact .rule b i e f};.exact .skip b c (FSn.inF h d)
  .rw[if_neg b]at a;exact .tok X a
def FSn.set{g:jb}{em:Wb}{al:W7}(h:FSn g em al){q:Nat}{u:Wa}(b:q<al.length)(c:∀t∈u,FiG em g.2.2.1 q t):FSn g em (al.set q u):=λi t a=>by simp[List.getD_eq_getElem?_getD,wdl]at a;split at a;{grind};.exact h i t X
def js7(g:jb)(hg:zag g)(hR:GR g)(y:GOk g)(em:Wb)(hE:Tn (λnn=>zj nn g) (λr=>r=em))(T:em.length=g.2.1.length):
  Tn (λnn=>Qc nn g) (λr=>∃o,r=some (em,o,())/\o.length=g.2.1.length/\FRn g em o/\∀p∈g.2.2.1,fiC em o p):=by
 have hp:=hg.p;have ht:=y.t;unfold Qc;refine Waj hR waa λb hb=>?_;subst hb;refine wae rfl (Waj hE waa λr hr=>?_);subst hr;refine Tt.b1 (wac _ (mkN hg.r U) ?_);refine Tt.loop (λm s=>∃(a:Bool)(o:W7),m=2*Q9 g.1.length o+(if a=true then 1 else 0)/\s=(a,g,r,o)/\o.length=g.2.1.length/\FRn g r o/\(a=false->∀p∈g.2.2.1,fiC r o p)) (2*Q9 g.1.length (replicate g.2.1.length [])+1) waa ⟨true,_,rfl,rfl,V,⟨λl P=>by rw[List.eq_of_mem_replicate P];exact RN.nil _,FSn.nil _⟩,λh=>by cases h⟩ λm s⟨a,o,hm,M,P,I,S⟩ nx F=>?_;subst M;dsimp only;refine wab (λc=>?_) (λc=>Tt.pure ⟨o,rfl,P,I,S c⟩);subst c;rw[if_pos rfl]at hm;refine Tt.loop (λm s=>∃(k:Nat)(a:Bool)(j:W7),k<=g.2.2.1.length/\m=g.2.2.1.length-k/\s=(a,g.2.2.1,(g.2.2.1.length:Int),(k:Int),g,r,j)/\j.length=g.2.1.length/\FRn g r j/\(a=true->Q9 g.1.length j<Q9 g.1.length o)/\(a=false->j=o/\∀i,i<k->∀p,g.2.2.1[i]?=some p->fiC r o p)) g.2.2.1.length waa.fst ⟨0,false,o,U,Wab,rfl,P,I,λh=>X,λ_=>⟨rfl,λi O=>U⟩⟩ λm2 s⟨k,a,j,hk,c1,M,w,d,B,z⟩ ny a0=>?_;subst M;dsimp only;refine wad (λc=>?_) (λc=>?_)
 ·have C:k<g.2.2.1.length:=U;have v:=wcm C;refine Tt.at C ?_;have D:=wch C;obtain⟨p,ep⟩:∃p,g.2.2.1[k]=p:=⟨_,rfl⟩
  rw[ep]at v D⊢;obtain⟨l0,l1⟩:=y.left p v;have Y:=y.items p v;have c2:=y.len p v;obtain⟨q,hq⟩:∃q:Nat,p.1=q:=⟨p.1.toNat,U⟩
  have n:q<j.length:=U;refine Tt.J (λs=>∃(a:Bool)(j:W7),s=(a,g.2.2.1,(g.2.2.1.length:Int),(k:Int),g,r,j)/\j.length=g.2.1.length/\FRn g r j/\(a=true->Q9 g.1.length j<Q9 g.1.length o)/\(a=false->j=o/\∀i,i<k+1->∀p,g.2.2.1[i]?=some p->fiC r o p)) (λnz G=>?_) (λs⟨a,j,M,w,d,B,z⟩=>?_)
  ·rw[hq];have H:=d.r _ (wcm n);refine waj n (Tt.at n ?_);refine Waj (jst g y r j T w d.r p.2.1 U Y) waa.fst.fst λf⟨f1,f2⟩=>?_;refine Waj (zg2 U H f1) waa.fst.fst λu⟨u1,u2⟩=>?_;refine waj n (Tt.at n (waj n (wac _ (zr u n) ?_)));have L:FRn g r (j.set q u):=⟨λl h=>by
    rcases weh h with h|h
    ·exact d.r l h
    grind,d.s.set n λt ht=>by
    rcases(u2 t).1 ht with h|h
    ·exact d.s q t X
    ·exact⟨p,v,U,d.s.inF ((f2 t).1 h)⟩⟩
   have Z:(j.set q u).length=g.2.1.length:=X;obtain⟨s1,s2⟩:=zkb H.r u1.r λx Q=>(u2 x).2 (.inl Q);refine wad (λc=>G _ ⟨true,_,rfl,Z,L,λ_=>?_,λh=>X⟩) (λc=>?_)
   ·have:=zmi (wch n) U u1.len
    grind
   ·have e:=s2 U;have es:j.set q u=j:=by rw[<- e];simp
    rw[es];refine G _ ⟨a,j,rfl,w,d,B,λA=>?_⟩;obtain⟨R,e2⟩:=z A;refine⟨R,λi O x Q=>?_⟩;by_cases b9:i<k
    ·grind
    ·have:i=k:=U;subst this;rw[D]at Q;cases Q;intro t N;rw[hq,wcy];have h1:=(u2 t).2 (.inr ((f2 t).2 (R▸N)));rw[<- e]at h1;have:o.getD q []=j[q]:=by rw[<- R];simp[List.getD,n]
     rwa [this]
  ·subst M;dsimp only;refine wai ?_;exact a0 (g.2.2.1.length-(k+1)) _ U ⟨k+1,a,j,U,rfl,V,w,d,B,z⟩
 ·cases A:a with
  |true=>
   have:=B A;exact Tt.fst (F (2*Q9 g.1.length j+1) _ U ⟨true,j,rfl,rfl,w,d,λh=>by cases h⟩)
  |false=>
   obtain⟨rfl,e2⟩:=z A;exact Tt.fst (F (2*Q9 g.1.length j) _ U ⟨false,j,rfl,rfl,w,d,λ_ p hp=>by
    obtain⟨i,O⟩:=wdd hp;exact e2 i (by have:=(wcl.1 O).1;omega) p O⟩)
def z8q{a b:Wa}(d:jx a)(e:jx b)(h:∀x,x∈a↔x∈b):a=b:=by obtain⟨i,f⟩:=zkb d e λx c=>(h x).1 c;obtain⟨g,_⟩:=zkb e d λx c=>(h x).2 c;exact f g
def jm4{n N:Nat}{a b:W7}(g:a.length=n)(j:b.length=n)(e:∀l∈a,RN N l)(f:∀l∈b,RN N l)(h:∀i t,t∈a.getD i []↔t∈b.getD i []):a=b:=by apply we7 U;intro i c d;refine z8q (e _ (wcm c)).r (f _ (wcm d)).r λx=>?_;have:=h i x;grind
def zz7{em:Wb}{al:W7}{B C:Wa}(h:∀y∈B,y∈C){t:Int}:∀{l:Wam jj},inT em al B t l->inT em al C t l
 |[],a=>h _ a
 |x::l,a=>by
  unfold inT at a⊢;by_cases c:x.1=true;.rw[if_pos c]at a⊢;exact a.imp id λb=>⟨b.1,zz7 h b.2⟩
  grind
inductive FoL(ps:List jk)(st:Nat)(en:Int)(em re:List Bool)(al:List (List Int)):Nat->Int->Prop
 |fin:FoL ps st en em re al st en
 |step {p:jk}{j:Nat}{x:jj}{t:Int}(B:List Int):p∈ps->re[p.1.toNat]?=some true->p.2.1[j]?=some x->x.1=true->(∀y,y∈B->FoL ps st en em re al p.1.toNat y)->inT em al B t (p.2.1.drop (j+1))->FoL ps st en em re al x.2.1.toNat t
def FoG(g:jb)(em re:Wb)(al:W7):Nat->Int->Prop:=FoL g.2.2.1 g.2.2.2.1.toNat (g.1.length:Int) em re al
structure FoR(g:jb)(em re:List Bool)(al:List (List Int))(T:Nat)(B:List (List Int)):Prop where
 r:∀l∈B,RN T l
 s:∀(i:Nat)(t:Int),t∈B.getD i []->FoG g em re al i t
def jr6{P:Nat->Int->Prop}{B:W7}(h:∀i t,t∈B.getD i []->P i t){z:Nat}{u:Wa}(hz:z<B.length)(b:∀t∈u,P z t):∀i t,t∈(B.set z u).getD i []->P i t:=λi t a=>by grind
def jke(g:jb)(hg:zag g)(hR:GR g)(Y:GOk g)(em re:Wb)(al:W7)(hE:Tn (λnn=>zj nn g) (λr=>r=em))(j0:em.length=g.2.1.length)(hl:al.length=g.2.1.length)(g6:∀l∈al,RN g.1.length l)(hA:Tn (λnn=>zet nn g) (λr=>r=al))(f5:Tn (λnn=>Jj nn g) (λr=>r=re))(j6:re.length=g.2.1.length):
  Tn (λnn=>Yh nn g) (λB=>B.length=g.2.1.length/\FoR g em re al (g.1.length+1) B/\(g.1.length:Int)∈B.getD g.2.2.2.1.toNat []/\∀p∈g.2.2.1,re[p.1.toNat]?=some true->foC em al B p):=by
 unfold Yh;refine Waj hR waa λb hb=>?_;subst hb;refine wae rfl ?_;have hp:=hg.p;have j8:=Y.t;refine Waj hA waa λr hr=>?_;subst hr;refine Waj hE waa λe he=>?_;subst he;refine Waj f5 waa λw hw=>?_;subst hw;refine Tt.b1 (wac _ (mkN hg.r U) ?_);refine Waj (jts g hR) waa λen f7=>?_;subst f7;obtain⟨st,b9⟩:∃st:Nat,g.2.2.2.1=st:=⟨g.2.2.2.1.toNat,by have:=Y.start;omega⟩
 have j7:=Y.start.2;rw[b9];have a5:st<(replicate g.2.1.length ([]:Wa)).length:=X;refine wac _ (yj a5) (wac _ (zr _ a5) ?_);rw[wcy];obtain⟨T,hT⟩:∃T,g.1.length+1=T:=⟨_,rfl⟩
 rw[hT];refine Tt.loop (λm s=>∃(d:Bool)(B:W7),m=2*Q9 T B+(if d=true then 1 else 0)/\s=(d,g,r,e,w,B)/\B.length=g.2.1.length/\FoR g e w r T B/\(g.1.length:Int)∈B.getD st []/\(d=false->∀p∈g.2.2.1,w[p.1.toNat]?=some true->foC e r B p)) (2*Q9 T ((replicate g.2.1.length []).set st [(g.1.length:Int)])+1) waa ⟨true,_,rfl,rfl,V,⟨λl hl=>?_,?_⟩,?_,λh=>by cases h⟩ λm s⟨d,B,hm,Z,c5,c6,c4,f6⟩ nx d4=>?_
 ·rcases weh hl with h|h
  ·rw[List.eq_of_mem_replicate h];exact RN.nil _
  ·rw[h];exact RN.one U U
 ·refine jr6 (P:=FoG g e w r) (λi t h=>?_) a5 λt h=>?_
  ·have:(replicate g.2.1.length ([]:Wa)).getD i []=[]:=by
    simp only[List.getD_eq_getElem?_getD,wee];split<;>rfl
   rw[this]at h;cases h
  ·rw[wcr.1 h];have:=FoL.fin (ps:=g.2.2.1) (st:=g.2.2.2.1.toNat) (en:=(g.1.length:Int)) (em:=e) (re:=w) (al:=r);rw[b9,wcy]at this;unfold FoG;rw[b9,wcy];exact this
 ·simp only[List.getD,wdl];simp at a5;simp[a5]
 subst Z;dsimp only;refine wab (λc=>?_) (λc=>Tt.pure ⟨c5,c6,c4,f6 c⟩);subst c;rw[if_pos rfl]at hm;refine Tt.loop (λm s=>∃(k:Nat)(d:Bool)(f:W7),k<=g.2.2.1.length/\m=g.2.2.1.length-k/\s=(d,g.2.2.1,(g.2.2.1.length:Int),(k:Int),g,r,e,w,f)/\f.length=g.2.1.length/\FoR g e w r T f/\(g.1.length:Int)∈f.getD st []/\(d=true->Q9 T f<Q9 T B)/\(d=false->f=B/\∀i,i<k->∀p,g.2.2.1[i]?=some p->w[p.1.toNat]?=some true->foC e r B p)) g.2.2.1.length waa.fst ⟨0,false,B,U,U,rfl,c5,c6,c4,λh=>(by cases h),λ_=>⟨rfl,λi hi=>U⟩⟩ λm2 s⟨k,d,f,hk,j2,Z,S,L,R,ht,hf⟩ ny g5=>?_;subst Z;dsimp only;refine wab (λc=>?_) (λc=>?_)
 ·have c:=wcj c;have b7:k<g.2.2.1.length:=U;have I:g.2.2.1[k]∈g.2.2.1:=wcm b7;have c3:g.2.2.1[k]?=some g.2.2.1[k]:=wch b7;refine Tt.J (λs=>∃(d:Bool)(f:W7),s=(d,g.2.2.1,(g.2.2.1.length:Int),(k:Int),g,r,e,w,f)/\f.length=g.2.1.length/\FoR g e w r T f/\(g.1.length:Int)∈f.getD st []/\(d=true->Q9 T f<Q9 T B)/\(d=false->f=B/\∀i,i<k+1->∀p,g.2.2.1[i]?=some p->w[p.1.toNat]?=some true->foC e r B p)) (λnz d5=>?_) (λs⟨d,f,Z,S,L,R,ht,hf⟩=>?_)
  ·refine wac _ (atN b7) ?_;obtain⟨p,ep⟩:∃p,g.2.2.1[k]=p:=⟨_,rfl⟩
   rw[ep]at I c3⊢;obtain⟨l0,l1⟩:=Y.left p I;have f9:=Y.items p I;have j4:=Y.len p I;obtain⟨q,hq⟩:∃q:Nat,p.1=q:=⟨p.1.toNat,U⟩
   have d6:q<w.length:=U;have a4:q<f.length:=U;refine Tt.J (λs=>∃(a:Bool)(A:W7),s=(d,g.2.2.1,(g.2.2.1.length:Int),(k:Int),a,g,r,e,w,A)/\A.length=g.2.1.length/\FoR g e w r T A/\(g.1.length:Int)∈A.getD st []/\(a=true->Q9 T A<Q9 T f)/\(a=false->A=f/\(w[q]?=some true->foC e r f p))) (λnw d3=>?_) (λs⟨a,A,Z,H,F,G,Q,O⟩=>?_)
   ·rw[hq];refine wac _ (atN d6) ?_;refine wab (λcw=>?_) (λcw=>d3 _ ⟨false,f,rfl,S,L,R,λh=>(by cases h),λ_=>⟨rfl,λh=>?_⟩⟩)
    ·refine wac _ (yj a4) (wac _ (atN a4) (Tt.b1 ?_));rw[wI U U];refine Tt.loop (λm s=>∃(i:Nat)(D:Wa)(a:Bool)(A:W7),i<=p.2.1.length/\m=i/\s=(D,(i:Int)-1,r,e,w,A,p,a)/\RN T D/\(∀t,t∈D↔inT e r f[q] t (p.2.1.drop i))/\A.length=g.2.1.length/\FoR g e w r T A/\(g.1.length:Int)∈A.getD st []/\(a=true->Q9 T A<Q9 T f)/\(a=false->A=f/\∀j,i<=j->∀x,p.2.1[j]?=some x->x.1=true->∀t,inT e r f[q] t (p.2.1.drop (j+1))->t∈f.getD x.2.1.toNat [])) p.2.1.length waa.fst.fst ⟨p.2.1.length,f[q],false,f,U,rfl,rfl,L.r _ (wcm a4),λt=>by rw[wed];rfl,S,L,R,λh=>(by cases h),λ_=>⟨rfl,λj hj x hx=>by rw[wek U]at hx;cases hx⟩⟩ λm3 s⟨i,D,a,A,hi,j3,Z,b4,a6,H,F,G,Q,O⟩ nv g4=>?_;subst Z;dsimp only;refine wab (λc=>?_) (λc=>?_)
     ·have c:=wcj c;obtain⟨i,rfl⟩:∃i',i=i'+1:=⟨i-1,U⟩
      have ei:((i+1:Nat):Int)-1=(i:Int):=U;rw[ei];have b2:i<p.2.1.length:=U;have e5:p.2.1[i]∈p.2.1:=wcm b2;have a9:p.2.1[i]?=some p.2.1[i]:=wch b2;have b0:p.2.1.drop i=p.2.1[i]::p.2.1.drop (i+1):=wcw b2;refine Tt.J (λs=>∃(D:Wa)(a:Bool)(A:W7),s=(D,(i:Int),r,e,w,A,p,a)/\RN T D/\(∀t,t∈D↔inT e r f[q] t (p.2.1.drop i))/\A.length=g.2.1.length/\FoR g e w r T A/\(g.1.length:Int)∈A.getD st []/\(a=true->Q9 T A<Q9 T f)/\(a=false->A=f/\∀j,i<=j->∀x,p.2.1[j]?=some x->x.1=true->∀t,inT e r f[q] t (p.2.1.drop (j+1))->t∈f.getD x.2.1.toNat [])) (λnu b8=>?_) (λs⟨D,a,A,Z,b4,a6,H,F,G,Q,O⟩=>?_)
      ·refine wac _ (atN b2) ?_;obtain⟨x,ex⟩:∃x,p.2.1[i]=x:=⟨_,rfl⟩
       rw[ex]at e5 a9 b0⊢;obtain⟨i1,i2⟩:=f9 x e5;refine wab (λcx=>?_) (λcx=>?_)
       ·have cx:x.1=false:=by simpa using cx
        rw[cx]at i2;simp only[wdr,if_false]at i2;refine b8 _ ⟨_,a,A,rfl,RN.one i1 U,λt=>?_,H,F,G,Q,λhn=>?_⟩
        ·rw[b0];simp[inT,cx]
        ·obtain⟨N,e2⟩:=O hn;refine⟨N,λj hj y M a7=>?_⟩;by_cases b6:i+1<=j
         ·exact e2 j b6 y M a7
         ·have:j=i:=U;subst this;rw[a9]at M;cases M;rw[cx]at a7;cases a7
       ·have cx:x.1=true:=by simpa using cx
        rw[if_pos cx]at i2;obtain⟨z,hz⟩:∃z:Nat,x.2.1=z:=⟨x.2.1.toNat,U⟩
        have C:z<A.length:=U;have c0:z<e.length:=U;have a8:z<r.length:=U;rw[hz];refine wac _ (yj C) (wac _ (atN C) ?_);have c7:RN T A[z]:=F.r _ (wcm C);have d8:RN T r[z]:=(g6 _ (wcm a8)).up U;refine Waj (zoh (n:=T) U c7 b4) waa.fst.fst.fst λu⟨u1,u2⟩=>?_;obtain⟨s1,s2⟩:=zkb c7.r u1.r λy M=>(u2 y).2 (.inl M);have d0:(A.set z u).length=g.2.1.length:=by rw[wd5];exact H
        have d7:FoR g e w r T (A.set z u):=⟨λl h=>by
         rcases weh h with h|h
         ·exact F.r l h
         ·rw[h];exact u1,jr6 F.s C λt h=>by
         rcases(u2 t).1 h with h|h
         ·exact F.s z t (by simpa [List.getD,C]using h)
         ·have h1:FoG g e w r x.2.1.toNat t:=FoL.step f[q] I (by rw[hq,wcy,wch d6,cw]) a9 cx (λy M=>by
           have h2:FoG g e w r q y:=L.s q y (by simpa [List.getD,a4]using M);have h3:p.1.toNat=q:=U;rw[h3];exact h2) ((a6 t).1 h)
          rw[hz,wcy]at h1;exact h1⟩
        have c8:(g.1.length:Int)∈(A.set z u).getD st []:=z9q C (λy M=>(u2 y).2 (.inl M)) G;refine Tt.J (λs=>∃(a:Bool),s=((z:Int),u,r,e,w,A,a)/\(a=true->Q9 T (A.set z u)<Q9 T f)/\(a=false->A.set z u=f/\A=f/\A[z]=u/\∀j,i+1<=j->∀x,p.2.1[j]?=some x->x.1=true->∀t,inT e r f[q] t (p.2.1.drop (j+1))->t∈f.getD x.2.1.toNat [])) (λnt d2=>?_) (λs⟨a,Z,e0,f8⟩=>?_)
        ·refine wab (λcn=>d2 _ ⟨true,rfl,λ_=>?_,λh=>by cases h⟩) (λcn=>?_)
         ·have h1:=Q cn;by_cases g2:A[z].length<u.length
          ·have:=zmi (T:=T) (al:=A) (k:=z) (o:=A[z]) (n:=u) (wch C) g2 u1.len;omega
          ·have N:=s2 U;have es:A.set z u=A:=by rw[<- N];exact List.set_getElem_self C
           rw[es];exact h1
         ·obtain⟨N,e2⟩:=O cn;refine wac _ (yj C) (wac _ (atN C) (d2 _ ⟨_,rfl,λh=>?_,λh=>?_⟩))
          ·have h:=wcj h;have:=zmi (T:=T) (al:=A) (k:=z) (o:=A[z]) (n:=u) (wch C) U u1.len;rw[N]at this⊢;omega
          ·have h:=wck h;have e3:=s2 U;have es:A.set z u=A:=by rw[<- e3];exact List.set_getElem_self C
           exact⟨es.trans N,N,e3,e2⟩
        ·subst Z;dsimp only;have a2:(a=false->A.set z u=f/\∀j,i<=j->∀x,p.2.1[j]?=some x->x.1=true->∀t,inT e r f[q] t (p.2.1.drop (j+1))->t∈f.getD x.2.1.toNat []):=λhn=>by
          obtain⟨N,e2,e3,e4⟩:=f8 hn;refine⟨N,λj hj y M a7 t b3=>?_⟩;by_cases b6:i+1<=j
          ·exact e4 j b6 y M a7 t b3
          ·have:j=i:=U;subst this;rw[a9]at M;cases M;rw[hz,wcy];have h7:z<f.length:=by rw[<- e2];exact C
           have h1:t∈u:=(u2 t).2 (.inr ((a6 t).2 b3));have h2:f.getD z []=u:=by rw[<- e2,<- e3];simp[List.getD,C]
           rw[h2];exact h1
         refine wac _ (yj C) (wac _ (zr u C) (wac _ (atN c0) ?_));refine wab (λce=>?_) (λce=>?_)
         ·refine wac _ (atN a8) ?_;refine Waj (zoh (n:=T) U b4 d8) waa.fst.fst.fst λv⟨v1,v2⟩=>?_;refine b8 _ ⟨v,a,_,rfl,v1,λt=>?_,d0,d7,c8,e0,a2⟩;rw[v2,a6,b0];simp only[inT,cx,if_true,hz,wcy,List.getD,wch c0,wch a8,wdx,ce,true_and];exact or_comm
         ·refine wac _ (atN a8) ?_;refine b8 _ ⟨_,a,_,rfl,d8,λt=>?_,d0,d7,c8,e0,a2⟩;rw[b0];simp only[inT,cx,if_true,hz,wcy,List.getD,wch c0,wch a8,wdx,ce,wdr,false_and,or_false]
      ·subst Z;dsimp only;refine Tt.b1 ?_;rw[wI U U];exact g4 i _ U ⟨i,D,a,A,U,rfl,rfl,b4,a6,H,F,G,Q,O⟩
     ·have c:=wck c;have:i=0:=U;subst this;refine d3.fst _ ⟨a,A,rfl,H,F,G,Q,λhn=>?_⟩;obtain⟨N,e2⟩:=O hn;refine⟨N,λ_ j x hx g7 t b3=>e2 j U x hx g7 t ?_⟩;have:f.getD p.1.toNat []=f[q]:=by rw[hq];simp[List.getD,a4]
      rwa [this]at b3
    grind
   ·subst Z;dsimp only;refine wab (λcn=>d5 _ ⟨true,A,rfl,H,F,G,λ_=>?_,λh=>by cases h⟩) (λcn=>?_)
    ·have:=Q cn;cases a3:d with
     |true=>have:=ht a3;omega
     |false=>have:=(hf a3).1;subst this;omega
    ·obtain⟨N,e2⟩:=O cn;subst N;refine d5 _ ⟨d,A,rfl,H,F,G,ht,λg3=>?_⟩;obtain⟨e3,e4⟩:=hf g3;refine⟨e3,λj hj y M=>?_⟩;by_cases g1:j<k
     ·exact e4 j g1 y M
     ·have:j=k:=U;subst this;rw[c3]at M;cases M;rw[hq,wcy,<- e3];exact e2
  ·subst Z;dsimp only;refine Tt.b1 ?_;rw[wI U U];exact g5 (g.2.2.1.length-(k+1)) _ U ⟨k+1,d,f,U,rfl,V,S,L,R,ht,hf⟩
 ·have c:=wck c;cases a3:d with
  |true=>
   have:=ht a3;exact Tt.fst (d4 (2*Q9 T f+1) _ U ⟨true,f,rfl,rfl,S,L,R,λh=>by cases h⟩)
  |false=>
   obtain⟨N,e2⟩:=hf a3;subst N;exact Tt.fst (d4 (2*Q9 T f) _ U ⟨false,f,rfl,rfl,S,L,R,λ_ p hp=>by
    obtain⟨i,hi⟩:=wdd hp;exact e2 i (by have:=(wcl.1 hi).1;omega) p hi⟩)
def RsM(m:PM):Prop:=∀e∈m,jx e.2
def RsB(i:Int)(m:PM):Prop:=∀e∈m,jx e.2/\∀x∈e.2,x<i
def RsT(i left:Int)(ts:Wa)(m:PM):Prop:=∀e∈m,jx e.2/\(∀x∈e.2,x<=i)/\((∃t∈ts,e.1=(left,t))->∀x∈e.2,x<i)
def jdu{m g:PM}{a:Int×Int}{v:Int}(h:zld plq 8 m a v=some g):∀e∈g,e∈m\/e=(a,[v])\/∃b∈m,b.1=a/\e=(a,b.2++[v]):=by unfold zld at h;cases d:kIx plq a (m.map (·.1))with|none=>{rw[d]at h;dsimp only at h;obtain⟨z,hz,rfl⟩:=wct.1 h;obtain⟨_,_,rfl⟩:=z9x hz;grind}|some j=>rw[d]at h;dsimp only at h;obtain⟨x,f,c⟩:=zck d;have c:=zxl.1 c;subst c;rw[wcv]at f;obtain⟨b,i,k⟩:=wct.1 f;rw[i]at h;dsimp only at h;obtain⟨z,hz,rfl⟩:=wct.1 h;obtain⟨_,_,rfl⟩:=z9x hz;grind
def z0y{i left:Int}:∀{ts:Wa}{m f:PM},ts.Nodup->RsT i left ts m->zmd i left ts m=some f->RsB (i+1) f
 |[],m,f,_,h,e=>by
  cases e;exact λe d=>⟨(h e d).1,λx j=>by have:=(h e d).2.1 x j;omega⟩
 |t::ts,m,f,o,h,e=>by
  rw[wfb]at o;unfold zmd at e;obtain⟨A,r,s⟩:=wdi.1 e;refine z0y o.2 (λe d=>?_) s;rcases jdu r e d with g|rfl|⟨q,g,u,rfl⟩
  {obtain⟨l,p,n⟩:=h e g;exact⟨l,p,λ⟨y,k,c⟩=>n ⟨y,we6 _ k,c⟩⟩};{refine⟨by simp[jx],λx j=>X,λ⟨y,k,c⟩=>?_⟩;grind};.obtain⟨l,p,n⟩:=h q g;have z:=n ⟨t,List.mem_cons_self,u⟩;refine⟨?_,λx j=>?_,λ⟨y,k,c⟩=>?_⟩;{unfold jx;rw[wel];exact⟨l,V,λa v b w=>X⟩};{grind};grind
def zx5{pr:Nat->Wa}(d:∀i,(pr i).Nodup):∀{ls:Wa}{i:Nat}{m c:PM},RsB (i:Int) m->zoq pr i ls m=some c->RsM c
 |[],i,m,c,h,e=>by cases e;exact λe b=>(h e b).1
 |a::l,i,m,c,h,e=>by unfold zoq at e;obtain⟨k,f,g⟩:=wdi.1 e;refine zx5 d ?_ g;have:=z0y (d i) (λe b=>⟨(h e b).1,λx j=>by have:=(h e b).2 x j;omega,λ_=>(h e b).2⟩) f;grind
def jbw{g:jb}{b rows:W7}{m:PM}{n:Nat}(d:jde g b rows m)(a:∀l∈rows,RN n l):RsM m:=zx5 (λi=>by
 simp[List.getD];cases c:rows[i]? with
 |none=>simp
 |some l=>exact(a l (wcq c)).r.imp λh=>U) (λe f=>X) d.go
def Two(g:jb)(em:Wb)(al B:W7)(c:Int×Int):Prop:=∃(k b:Nat)(p a:jk),k≠b/\g.2.2.1[k]?=some p/\g.2.2.1[b]?=some a/\c.1=p.1/\c.1=a.1/\inT em al (B.getD p.1.toNat []) c.2 p.2.1/\inT em al (B.getD a.1.toNat []) c.2 a.2.1
def two_of{g:jb}{em:Wb}{al B:W7}{m:PM}(h:jal g em al B m)(u:RsM m){e:(Int×Int)×Wa}(n:e∈m)(x:2<=e.2.length):Two g em al B e.1:=by
 obtain⟨i,j,l,o⟩:∃i j l,e.2=i::j::l:=by
  match w:e.2 with
  |[]=>grind
  |[a]=>grind
  |a::b::l=>simp
 obtain⟨k,p,rfl,r,s,_,_,t⟩:=h.pm.says e n i X;obtain⟨q,v,rfl,c,d,_,_,f⟩:=h.pm.says e n j X;have:=u e n;rw[o]at this;have:(k:Int)<q:=(wdk.1 this).1 _ V;exact⟨k,q,p,v,U,r,c,s,d,t,f⟩
def jhk{g:jb}{em:Wb}{al B:W7}{m:PM}(h:jal g em al B m){c:Int×Int}(r:Two g em al B c):∃e∈m,e.1=c/\2<=e.2.length:=by
 obtain⟨k,t,p,u,s,n,d,w,o,q,f⟩:=r;obtain⟨x,j,A,C⟩:=h.has k p n _ q;obtain⟨y,v,D,F⟩:=h.has t u d _ f;have i:=zm6 h.pm.nd j v X;subst i;refine⟨x,j,X,?_⟩;match z:x.2 with
 |[]=>grind
 |[a]=>
  grind
 |a::b::l=>simp
def CdS(g:jb)(em:Wb)(al B:W7)(r:Int×Int×Int):Prop:=(r=(0,0,0)/\∀c,¬Two g em al B c)\/∃c,r=(15,c.1,c.2)/\Two g em al B c/\∀a,Two g em al B a->¬ltP a c
def CdS.one{g:jb}{em:Wb}{al B:W7}{r s:Int×Int×Int}(h:CdS g em al B r)(k:CdS g em al B s):r=s:=by
 rcases h with⟨rfl,h⟩|⟨c,rfl,b,e⟩
 .rcases k with⟨rfl,_⟩|⟨d,_,a,_⟩
  {rfl};grind
 .rcases k with⟨_,k⟩|⟨d,rfl,a,f⟩
  {grind};.rw[jl3 (f c b) (e d a)]
def CdS.nc{g:jb}{em:Wb}{al B:W7}{r:Int×Int×Int}(h:CdS g em al B r)(h0:r.1=0):NC g em al B:=by
 rcases h with⟨_,h⟩|⟨c,rfl,_⟩
 {intro k b p l j a e t d f;by_cases i:k=b;{omega};.exact absurd ⟨k,b,p,l,i,j,a,rfl,e,d,f⟩ (h (p.1,t))};omega
def z3u{g:jb}{em:Wb}{al B:W7}{m:PM}(h:jal g em al B m)(n:RsM m):∃r,zlk m=some r/\CdS g em al B r.1:=by
 obtain⟨r,a,_⟩:=jfw h;refine⟨r,a,?_⟩;unfold zlk at a;cases f:(Yl m).2 with
 |false=>
  rw[f]at a;cases a;refine .inl ⟨rfl,λc i=>?_⟩;obtain⟨e,p,q,s⟩:=jhk h i;rcases zhx m with⟨_,d⟩|⟨d,_⟩
  {grind};grind
 |true=>
  rw[f]at a;obtain⟨z,_,rfl⟩:=wct.1 a;rcases zhx m with⟨d,_⟩|⟨_,⟨e,j,k,l⟩,t⟩
  {grind};.refine .inr ⟨_,rfl,?_,λo b=>?_⟩;{rw[<- k];exact two_of h n j l};.obtain⟨y,u,v,w⟩:=jhk h b;grind
def jcm{g:jb}{em re:Wb}{al B:W7}(j:zag g)(i:GR g)(b:GOk g)(k:Kn g em re al B):Tn (λl=>Qj l g) (λr=>∃d,r.1=(d.1,d.2.1,d.2.2,())/\CdS g em al B d):=by
 obtain⟨rows,m,e,a,c⟩:=jc3 j b k;obtain⟨r,f,h⟩:=z3u c (jbw e a);exact(jt8 i e c.pm.nd f).mono λx n=>⟨r.1,X,h⟩
structure KnX(g:jb)(em re:List Bool)(al B:List (List Int)):Prop where
 kn:Kn g em re al B
 emt:∀p∈g.2.2.1,mkT false em p
 ems:MSn false g em
 res:∀i,re[i]?=some true->ReG g i
 als:FRn g em al
 Bs:FoR g em re al (g.1.length+1) B
def emC_mk{r:Wb}{p:jk}(h:mkT false r p):emC r p:=λa=>h λx b=>⟨λ_=>(a x b).2,λc=>X⟩
def KnX_of(g:jb)(o:zag g)(n:GR g)(a:GOk g):∃d re e B,KnX g d re e B:=by obtain⟨d,w,b,f,q⟩:=(jpi g o n a).val;obtain⟨re,i,j,m,l,y⟩:=(jg9 g o n a).val;obtain⟨k,z,e,rfl,x,c,s⟩:=(js7 g o n a d w b).val;obtain⟨B,A,v,h,u,t⟩:=(jke g o n a d re e w b x c.r (z6q g a d e x z) i j).val;exact⟨d,re,e,B,⟨w,b,λp C=>emC_mk (f p C),i,j,m,l,z,x,c.r,s,A,v,h.r,u,t⟩,f,q,y,c,h⟩
def fsF(a:Int):Wb->Nat->jc
 |[],_=>(0,0,0,())
 |b::l,i=>match b with
  |true=>fsF a l (i+1)
  |false=>(a,i,0,())
def jmd{g:jb}(h:GOk g)(y:jd×W7×Unit){l:Wb}(q:l.length=g.2.1.length)(o:Tn (λj=>Jj j g) (λr=>r=l)):Tn (λj=>Zx j (some (g,y))) (λd=>d=fsF 13 l 0):=by have u:=h.r;unfold Zx;refine Tt.b1 (Waj o waa λr n=>?_);subst n;refine Tt.J (λd=>d=fsF 13 r 0) (λv b=>?_) (λs i=>Tt.pure i);refine Tt.loop (λm s=>∃k,k<=r.length/\m=r.length-k/\s=(13,0,(r.length:Int),(k:Int),r,(0,0,0,()))/\fsF 13 r 0=fsF 13 (r.drop k) k) r.length waa ⟨0,U,Wab,rfl,rfl⟩ λm s⟨k,p,t,i,e⟩ w f=>?_;subst i;dsimp only;refine wad (λc=>?_) (λc=>b.fst _ ?_);{have a:k<r.length:=U;rw[wcw a]at e;refine Tt.at a (wab (λcb=>b.fst _ ?_) λcb=>Tt.b1 ?_);{have cb:r[k]=false:=X;rw[e,cb];rfl};.have cb:r[k]=true:=X;rw[wI U U];exact f (r.length-(k+1)) _ U ⟨k+1,U,rfl,V,by rw[e,cb];rfl⟩};.have:k=r.length:=U;subst this;rw[e,wed];rfl
def jko{g:jb}(h:GOk g)(y:jd×W7×Unit){l:Wb}(q:l.length=g.2.1.length)(o:Tn (λj=>Yi j g) (λr=>r=l)):Tn (λj=>Z4 j (some (g,y))) (λd=>d=fsF 14 l 0):=by have u:=h.r;unfold Z4;refine Tt.b1 (Waj o waa λr n=>?_);subst n;refine Tt.J (λd=>d=fsF 14 r 0) (λv b=>?_) (λs i=>Tt.pure i);refine Tt.loop (λm s=>∃k,k<=r.length/\m=r.length-k/\s=(14,0,(r.length:Int),(k:Int),r,(0,0,0,()))/\fsF 14 r 0=fsF 14 (r.drop k) k) r.length waa ⟨0,U,Wab,rfl,rfl⟩ λm s⟨k,p,t,i,e⟩ w f=>?_;subst i;dsimp only;refine wad (λc=>?_) (λc=>b.fst _ ?_);{have a:k<r.length:=U;rw[wcw a]at e;refine Tt.at a (wab (λcb=>b.fst _ ?_) λcb=>Tt.b1 ?_);{have cb:r[k]=false:=X;rw[e,cb];rfl};.have cb:r[k]=true:=X;rw[wI U U];exact f (r.length-(k+1)) _ U ⟨k+1,U,rfl,V,by rw[e,cb];rfl⟩};.have:k=r.length:=U;subst this;rw[e,wed];rfl
def jjq{g:jb}{em re:Wb}{al B:W7}(c:zag g)(b:GR g)(a:GOk g)(e:Kn g em re al B)(y:jd×W7×Unit):Tn (λh=>Vx h (some (g,y))) (λr=>∃d,r=(d.1,d.2.1,d.2.2,())/\CdS g em al B d):=by unfold Vx;refine Tt.b1 (Waj (jcm c b a e) waa λr f=>Tt.pure f)
def setA4(a:We){k:Nat}(h:k<4)(x:Int):∃b,zp8 a (k:Int) x=some b:=by have c:=a.2;unfold zp8;simp_all
def at4(a:We){k:Nat}(h:k<4):∃x,atL a.l (k:Int)=some x:=⟨_,atN (by have:=a.2;omega)⟩
def jas(l:W9)(t:l.length<=1000000):Tn (λp=>Qw p l) (λ_=>True):=by unfold Qw;refine Tt.loop (λm s=>∃k a b,k<=l.length/\m=l.length-k/\s=(l,(l.length:Int),(k:Int),a,b)) l.length waa ⟨0,_,_,U,U,rfl⟩ λm s⟨k,a,b,r,u,h⟩ w f=>?_;subst h;dsimp only;refine wad (λc=>?_) (λc=>Tt.pure trivial);have e:k<l.length:=U;refine Tt.at e (Tt.loop (λm s=>∃i a b,i<=4/\m=4-i/\s=(l,(l.length:Int),(k:Int),(i:Int),a,b,l[k])) 4 waa.fst ⟨0,_,_,U,Wab,rfl⟩ λv s⟨i,a,b,q,j,h⟩ A g=>?_);subst h;dsimp only;refine wad (λc=>?_) (λc=>Tt.b1 ?_);{have d:i<4:=U;obtain⟨x,n⟩:=at4 b d;obtain⟨y,o⟩:=at4 l[k] d;obtain⟨z,hz⟩:=setA4 b d (orI .u64 x y);refine waj d (wac _ n (waj d (wac _ o (waj d (wac _ hz (wai ?_))))));exact g (4-(i+1)) _ U ⟨i+1,a,z,U,rfl,V⟩};.rw[wI U U];exact Tt.fst (f (l.length-(k+1)) _ U ⟨k+1,a,b,U,rfl,V⟩)
def zme(a b:We):Tn (λc=>Qw c [a,b]) (λ_=>True):=jas _ V
def jws(a b:jo):Tn (λe=>Zz e a b) (λ_=>True):=by
 unfold Zz;refine Tt.J (λ_=>True) (λd c=>(Tt.b1 (wab (λ_=>c _ trivial) λ_=>c _ trivial))) (λs _=>?_)
 .refine wab (λ_=>Tt.pure trivial) λ_=>(Tt.J (λ_=>True) (λd c=>(wab (λ_=>Waj (zme _ _) waa λ_ _=>c _ trivial) λ_=>Waj (zme _ _) waa λ_ _=>c _ trivial)) (λs _=>?_))
  .refine Tt.J (λ_=>True) (λd c=>?_) (λs _=>Tt.pure trivial);exact wab (λ_=>Waj (zme _ _) waa λ_ _=>c _ trivial) λ_=>c _ trivial
def z7d(a b:jo):Tn (λd=>Vg d a b) (λ_=>True):=by
 unfold Vg;refine wab (λ_=>Tt.pure trivial) λ_=>wab (λ_=>Tt.pure trivial) λ_=>(Tt.J (λ_=>True) (λe c=>?_) (λs _=>Tt.pure trivial))
 exact wab (λ_=>Waj (zme _ _) waa λ_ _=>Waj (zme _ _) waa λ_ _=>c _ trivial) λ_=>Waj (zme _ _) waa λ_ _=>Waj (zme _ _) waa λ_ _=>c _ trivial
def jkz(x:jh)(l:Wam jo)(n:Nat)(e:arK x.1=some n)(w:n<=l.length):Tn (λq=>Qz q x l) (λ_=>True):=by
 have g:0<n->∃a,atL l 0=some a:=λh=>⟨_,atN (k:=0) U⟩
 have j:1<n->∃a,atL l 1=some a:=λh=>⟨_,atN (k:=1) U⟩
 unfold Qz;refine wad (λ_=>wab (λ_=>Tt.pure trivial) λ_=>Tt.pure trivial) λr=>?_;refine wad (λc=>?_) λt=>wad (λc=>?_) λu=>wad (λc=>?_) λv=>?_;{rw[c]at e;cases e;obtain⟨a,f⟩:=g U;obtain⟨b,i⟩:=j U;exact wac _ f (wac _ i (Waj (jws _ _) waa λ_ _=>Tt.pure trivial))};{rw[c]at e;cases e;obtain⟨a,f⟩:=g U;obtain⟨b,i⟩:=j U;exact wac _ f (wac _ i (Waj (z7d _ _) waa λ_ _=>Tt.pure trivial))};{rw[c]at e;cases e;obtain⟨a,f⟩:=g U;exact wac _ f (Waj (z7d _ _) waa λ_ _=>Tt.pure trivial)};.refine Tt.J (λs=>s.1=l/\(s.2.1=true->0<n)) (λm d=>?_) (λs⟨o,p⟩=>?_);{refine Tt.b1 (wad (λc=>d _ ⟨rfl,λ_=>?_⟩) λc=>Tt.b1 (d _ ⟨rfl,λh=>?_⟩));{rw[c]at e;cases e;omega};.have c:=wcj h;rw[c]at e;cases e;omega};.refine wab (λc=>?_) λ_=>Tt.pure trivial;obtain⟨a,f⟩:=g (p c);rw[o];refine wac _ f (Tt.J (λ_=>True) (λm d=>wab (λ_=>d _ trivial) λ_=>d _ trivial) (λs _=>?_));refine Tt.J (λ_=>True) (λm d=>?_) (λs _=>Tt.pure trivial);exact wab (λ_=>Waj (z7d _ _) waa λ_ _=>d _ trivial) λ_=>d _ trivial
def zsn{l:Wam jh}{d e:Nat}{k:Nat}(h:zk2 l d=some e)(f:k<l.length){j:Nat}(c:zk2 (l.take k) d=some j):∃n,arK (l[k]).1=some n/\n<=j/\zk2 (l.take (k+1)) d=some (j-n+1):=by have g:l=l.take (k+1)++l.drop (k+1):=(wd2 _ _).symm;have a:zk2 (l.take (k+1)) d=match arK (l[k]).1 with|none=>none|some n=>if n<=j then some (j-n+1)else none:=by{rw[wcp f,zhb,c];rfl};rw[g,zhb]at h;cases b:arK (l[k]).1 with|none=>{grind}|some n=>rw[b]at a;dsimp only at a;by_cases i:n<=j;{grind};grind
def je7(l:Wam jh)(G:l.length<=1000000):Tn (λL=>Y1 L l) (λ_=>True):=by
 unfold Y1;refine Tt.J (λ_=>True) (λQ o=>?_) (λs _=>Tt.pure trivial);refine Waj (jjr l G) waa λe F=>(wad (λ_=>o _ trivial) λc=>?_)
 obtain⟨i,y⟩:=F U;refine Tt.loop (λm s=>∃k f st,k<=l.length/\m=l.length-k/\s=(l,(l.length:Int),(k:Int),f,st)/\zk2 (l.take k) 0=some st.length/\st.length<=k) l.length waa ⟨0,_,[],U,U,rfl,rfl,V⟩ λm s⟨k,f,st,N,O,g,z,I⟩ R w=>?_;subst g;dsimp only;refine wab (λc=>?_) (λc=>?_);{have c:=wcj c;have j:k<l.length:=U;obtain⟨n,v,H,C⟩:=zsn i j z;refine Tt.at j (Tt.J (λs=>s=((n:Int),l,(l.length:Int),(k:Int),f,st,l[k])) (λS d=>?_) (λs g=>?_));{refine Tt.J (λs=>∃b,s=(0,l,(l.length:Int),(k:Int),(l[k]).1,b,f,st,l[k])/\(b=true↔((l[k]).1=3\/(l[k]).1=4))) (λT p=>?_) (λs⟨b,g,t⟩=>?_);{refine Tt.b1 (wad (λc=>p _ ⟨_,rfl,?_⟩) (λc=>Tt.b1 (p _ ⟨_,rfl,?_⟩)));{have:=c;simp[this]};.have:=c;simp[this]};.subst g;dsimp only;refine wab (λc=>d _ ?_) (λc=>?_);{have:=t.1 c;rw[arK,if_pos this]at v;grind};.have q:¬((l[k]).1=3\/(l[k]).1=4):=λh=>by{rw[t.2 h]at c;cases c};refine Tt.J (λs=>∃b,s=(0,l,(l.length:Int),(k:Int),b,f,st,l[k])/\(b=true↔((l[k]).1=5\/(l[k]).1=6\/(l[k]).1=7))) (λP a=>?_) (λs⟨b,g,t⟩=>?_);{refine Tt.b1 (wab (λc=>a _ ⟨_,rfl,?_⟩) (λc=>Tt.b1 (wab (λA=>a _ ⟨_,rfl,?_⟩) (λA=>Tt.b1 (a _ ⟨_,rfl,?_⟩)))));{grind};{grind};grind};.subst g;dsimp only;rw[arK,if_neg q]at v;refine wab (λc=>d _ ?_) (λc=>d _ ?_);{grind};grind};.subst g;dsimp only;refine wai ?_;have B:(st.length:Int)-(n:Int)=((st.length-n:Nat):Int):=U;rw[B];refine wac (st.length-n) (by unfold zrh;simp) ?_;have D:(st.drop (st.length-n)).length=n:=X;refine wac _ (yp X U) ?_;rw[web];refine Waj (jkz _ _ n v U) waa.fst λr _=>?_;refine wac (st.take (st.length-n)) (by unfold zaq;simp) (wac _ (yp X U) (wai ?_));have M:(st.take (st.length-n)++[r]).length=st.length-n+1:=V;exact w (l.length-(k+1)) _ U ⟨k+1,f,_,U,rfl,rfl,X,U⟩};.have c:=wck c;have u:k=l.length:=U;rw[u,wc8,i]at z;have x:0<st.length:=X;exact waj x (Tt.at x (o.fst _ trivial))
def z6s(l:Wam jh)(a:l.length<=1000000):Tn (λb=>yn b l) (λ_=>True):=by unfold yn;refine Tt.bind (R:=λ_=>True) ?_ λ_ _=>Tt.pure trivial;unfold Y5;exact Waj (je7 l a) waa λr _=>wab (λ_=>Tt.pure trivial) λ_=>Tt.pure trivial
def sm7{α:Type}{a b:Wam α}(h:a.length<=1000000):Go.Proofs.YtiafpechgjopfaaGreatDoor.small7 a b=some b:=by unfold Go.Proofs.YtiafpechgjopfaaGreatDoor.small7;grind
section
variable{α:Type}{s:List α}{b:α}
def popZ(h:s.length<=1000000):T.w64 (((s++[b]).length:Int)-1)=(s.length:Int):=by rw[wc4,wdc,wI U U];omega
def jmx(h:s.length<=1000000):jq (s++[b]).length (T.w64 (((s++[b]).length:Int)-1))=some (s.length:Int):=by rw[popZ h];exact yj V
def jnq:atL (s++[b]) (s.length:Int)=some b:=Qg U V
def truncN{k:Nat}(h:k<=s.length):zaq s (k:Int)=some (s.take k):=by unfold zaq;grind
def jo4(h:s.length<=1000000):zaq (s++[b]) (T.w64 (((s++[b]).length:Int)-1))=some s:=by rw[popZ h,truncN V];simp
def zz8{l:Wam α}(h:0<l.length):∃s b,l=s++[b]:=by
 rcases List.eq_nil_or_concat l with rfl|⟨s,b,rfl⟩
 {grind};simp
end
abbrev OvS:=(List jh)×Int×Int×Bool×Int×qy×(List (Arr 4 Int))×(List (List Int))×(List Int)×(List Int)×(List qy)
def mid_eq(a b:Nat)(h:a+b<=2000000):zvl .u64 (wr .u64 (T.w64 ((a:Int)+(b:Int)))) 1=some (((a+b) / 2:Nat):Int):=by rw[wI U U];unfold wr zvl;rw[ze5 U U,if_neg U];have:min (1:Int).toNat IntKind.u64.bits=1:=Wab;grind
structure zkx(N M:Nat)(n:jl):Prop where
 s:n.1.length<=N
 o:n.2.1.length<=M
 l:n.2.2.1.length<=M
 f:n.2.2.2.1.length<=M
 fr:∀x∈n.2.2.2.1,x.length<=512
 fi:n.2.2.2.2.1.length<=M
def ris_of{l:Wa}(h:∀i(h:i+1<l.length),l[i]<l[i+1]):jx l:=by have a:∀d i(c:i+d+1<l.length),l[i]<l[i+d+1]:=by{intro d;induction d with|zero=>{omega}|succ d g=>grind};refine we2.2 λi j e f b=>?_;have:=a (j-i-1) i U;simpa [show i+(j-i-1)+1=j by omega]using this
def jw9{N:Nat}{l:Wa}(b:jx l)(h:(a:0<l.length)->0<=l[0]/\l[l.length-1]<(N:Int)):RN N l:=by refine⟨b,λx d=>?_⟩;obtain⟨i,c,rfl⟩:=List.mem_iff_getElem.1 d;obtain⟨j,k⟩:=h U;have a:=we2.1 b;have f:l[0]<=l[i]:=by{grind};have g:l[i]<=l[l.length-1]:=by{by_cases e:i=l.length-1;{grind};.have:=a i (l.length-1) c U U;omega};omega
structure NetOk(n:jl):Prop where
 o:n.2.1.length=n.1.length
 l:n.2.2.1.length=n.1.length
 f:n.2.2.2.1.length=n.1.length
 fi:RN n.1.length n.2.2.2.2.1
 fo:∀x∈n.2.2.2.1,RN n.1.length x
def jsd{b:Nat}(h:b<256):zwd .u8 (b:Int) 64=some ((b / 64:Nat):Int):=by unfold zwd;rw[if_neg V,show((b:Int)).tdiv 64=((b / 64:Nat):Int)from(Int.ofNat_tdiv b 64).symm,Qv U U]
def jiy(b:Nat):z2y .u8 (b:Int) 64=some ((b % 64:Nat):Int):=by rfl
def RN.sub{N:Nat}{a b:Wa}(h:RN N b)(c:a.Sublist b):RN N a:=⟨we1 c h.r,λx d=>h.b x (c.subset d)⟩
def jpw(s:We)(b:Nat)(a:b<256):Tn (λd=>zdn d s (b:Int)) (λ_=>True):=by unfold zdn;obtain⟨x,c⟩:=at4 s (k:=b / 64) U;refine wac _ (jsd a) (waj U (wac _ c (wac _ (jiy b) ?_)));exact wac _ (show jca .u64 1 ((b % 64:Nat):Int)=some _ by rfl) (Tt.pure trivial)
section
variable{α β:Type}{eqb:α → α → Bool}
def zj3:∀{m:Wam (α×β×Unit)}{k:α}{v:β},zl eqb m k=none->Yr eqb m k v=m++[(k,v,())]
 |[],_,_,_=>rfl
 |e::r,k,v,h=>by unfold zl at h;unfold Yr;cases a:eqb k e.1;{rw[a]at h;simp[wdw,zj3 h]};grind
def zm2{k:α}{v:β}(b:eqb k k=true):∀{m:Wam (α×β×Unit)},zl eqb (Yr eqb m k v) k=some v
 |[]=>by unfold Yr zl;grind
 |e::r=>by unfold Yr;cases a:eqb k e.1;{unfold zl;rw[a];exact zm2 b};.unfold zl;grind
def z4h:∀{m:Wam (α×β×Unit)}{k:α}{v:β},zl eqb m k=some v->∃(j:Nat)(e:α×β×Unit),m[j]?=some e/\e.2.1=v
 |[],_,_,h=>by cases h
 |e::r,k,v,h=>by unfold zl at h;cases a:eqb k e.1;{rw[a]at h;obtain⟨j,b,d,c⟩:=z4h h;exact⟨j+1,b,X,c⟩};.rw[a]at h;cases h;exact⟨0,e,rfl,rfl⟩
end
def jiv(k:ye):Vi k k=true:=by simp[Vi,z0b]
def zxk{n:Nat}{α:Type}(a:Arr n α){k:Nat}(h:k<n)(x:α):∃b,zp8 a (k:Int) x=some b/\b.l=a.l.set k x:=by refine⟨⟨a.l.set k x,by rw[wd5,a.h]⟩,?_,rfl⟩;unfold zp8;grind
structure ClsN(a:Arr 256 Int)(n:Nat):Prop where
 h1:1<=n
 h2:n<=256
 lt:∀(b:Nat)(x:Int),a.l[b]?=some x->∃j:Nat,j<n/\x=j
 on:∀j:Nat,j<n->∃b:Nat,a.l[b]?=some (j:Int)
def ClsN.zero:ClsN ⟨replicate 256 0,wci⟩ 1:=
 ⟨U,U,λb x h=>⟨0,U,X⟩,λj a=>⟨0,X⟩⟩
structure SplI(k:Nat)(a:Arr 256 Int)(m:List (ye×Int×Unit)):Prop where
 v:∀(j:Nat)(e:ye×Int×Unit),m[j]?=some e->e.2.1=j
 l:m.length<=k
 p:0<k->0<m.length
 lt:∀(b:Nat)(x:Int),b<k->a.l[b]?=some x->∃j:Nat,j<m.length/\x=j
 on:∀j:Nat,j<m.length->∃b:Nat,b<k/\a.l[b]?=some (j:Int)
def SplI.step{k:Nat}{a d:Wd}{m c:Wam (ye×Int×Unit)}(h:SplI k a m)(B:k<256){j:Nat}(y:d.l=a.l.set k (j:Int))(hm:c=m/\j<m.length\/∃x,c=m++[(x,(m.length:Int),())]/\j=m.length):SplI (k+1) d c:=by
 have C:=a.h;have z:d.l[k]?=some (j:Int):=X;have w:∀b,b≠k->d.l[b]?=a.l[b]?:=λb t=>X;have A:j<c.length/\m.length<=c.length/\c.length<=m.length+1:=by{grind};refine⟨λi e o=>?_,by have:=h.l;omega,λ_=>U,λb x t r=>?_,λi q=>?_⟩
 .rcases hm with⟨f,g⟩|⟨x,f,g⟩
  {subst f;exact h.v i e o};.subst f;by_cases q:i<m.length;{rw[wcx q]at o;exact h.v i e o};grind
 {by_cases n:b=k;{grind};.rw[w b n]at r;obtain⟨i,s,g⟩:=h.lt b x U r;grind};.by_cases u:i=j;{grind};.have p:i<m.length:=by{grind};obtain⟨b,s,g⟩:=h.on i p;grind
def jj8(a:Wd)(s:We):Tn (λS=>Yg S a s) (λr=>∃n,ClsN r n):=by unfold Yg;refine Tt.loop (λj t=>∃(k:Nat)(g:Wd)(m:Wam (ye×Int×Unit)),k<=256/\j=256-k/\t=((k:Int),g,s,⟨replicate 256 0,wci⟩,m)/\SplI k g m) 256 waa ⟨0,_,_,U,U,rfl,⟨λj e h=>by simp at h,V,U,λb x h=>U,λj h=>by simp at h⟩⟩ λj t⟨k,g,m,Y,G,A,o⟩ Z z=>?_;subst A;dsimp only;refine wad (λc=>?_) (λc=>Tt.pure ?_);{have d:k<256:=U;have P:=g.h;have C:wr .u8 (k:Int)=(k:Int):=Qv U U;refine waj d (Tt.at U ?_);rw[C];refine Waj (jpw s k d) waa.fst λr _=>?_;generalize H:((g.l[k]'U,r,()):ye)=f;have R:=o.l;refine Tt.J (λt=>∃(q:Wam (ye×Int×Unit))(j:Nat),t=((k:Int),(k:Int),g,s,⟨replicate 256 0,wci⟩,q,f)/\zl Vi q f=some (j:Int)/\(q=m/\j<m.length\/∃x,q=m++[(x,(m.length:Int),())]/\j=m.length)) (λny u=>?_) λt⟨q,j,A,w,Q⟩=>?_;{refine Tt.b1 ?_;cases w:zl Vi m f with|none=>{refine wah rfl (Tt.b1 (Tt.b1 (u _ ⟨_,m.length,rfl,?_,Or.inr ⟨f,?_,rfl⟩⟩)));{have B:wr .u8 (m.length:Int)=(m.length:Int):=Qv U U;rw[B];exact zm2 (jiv f)};.have B:wr .u8 (m.length:Int)=(m.length:Int):=Qv U U;rw[B];exact zj3 w}|some v=>obtain⟨i,e,D,F⟩:=z4h w;have T:=o.v i e D;have O:i<m.length:=by{grind};refine wae rfl (u _ ⟨m,i,rfl,?_,Or.inl ⟨rfl,O⟩⟩);grind};.subst A;dsimp only;rw[w];obtain⟨L,M,N⟩:=zxk g d (j:Int);refine Tt.b1 (waj d (wac _ M (wai ?_)));exact z (256-(k+1)) _ U ⟨k+1,L,q,U,rfl,rfl,o.step d N Q⟩};.have y:k=256:=U;subst y;refine⟨m.length,o.p U,o.l,λb x I=>o.lt b x ?_ I,λj G=>?_⟩;{have:=wcl.1 I;have F:=g.h;grind};.obtain⟨b,D,F⟩:=o.on j G;grind
def z36(a:Wd){n:Nat}(h:ClsN a n):Tn (λy=>Yk y a) (λr=>r=(n:Int)):=by have B:=a.h;have C:=h.h2;unfold Yk;refine Tt.loop (λj t=>∃(k w:Nat),k<=256/\j=256-k/\t=((w:Int),a,(k:Int))/\w<=n/\∀b x,b<k->a.l[b]?=some x->x<(w:Int)) 256 waa ⟨0,0,U,Wab,rfl,U,λb x h=>U⟩ λj t⟨k,w,A,z,u,D,q⟩ F d=>?_;subst u;dsimp only;refine wad (λc=>?_) (λc=>Tt.pure ?_);{have s:k<256:=U;refine Tt.at U ?_;obtain⟨i,g,m⟩:=h.lt k (a.l[k]'U) V;have e:wr .i64 (a.l[k]'U)=(i:Int):=by{rw[m];exact zbs U U};have f:max (w:Int) (T.w64 (wr .i64 (a.l[k]'U)+1))=((max w (i+1):Nat):Int):=by{rw[e,wI U U];omega};rw[f];refine Tt.b1 (wai ?_);refine d (256-(k+1)) _ U ⟨k+1,_,U,rfl,rfl,U,λb x o v=>?_⟩;by_cases p:b=k;{grind};.have:=q b x U v;omega};.have g:=h.h1;obtain⟨b,o⟩:=h.on (n-1) U;grind
def jka(a:Wd){n:Nat}(h:ClsN a n)(c:Nat)(C:c<n):Tn (λG=>Ve G a (c:Int)) (λr=>∃b:Nat,b<256/\atL r 0=some (b:Int)):=by have L:=a.h;have M:=h.h2;unfold Ve;refine Tt.loop (λj t=>∃(k:Nat)(out:Wa),k<=256/\j=256-k/\t=((c:Int),(k:Int),a,out)/\out.length<=k/\(∀x∈out,∃b:Nat,b<256/\x=(b:Int))/\((∃b,b<k/\a.l[b]?=some (c:Int))->0<out.length)) 256 waa ⟨0,_,U,U,rfl,V,V,λ⟨b,h,_⟩=>U⟩ λj t⟨k,out,I,H,s,N,w,v⟩ O q=>?_;subst s;dsimp only;refine wad (λz=>?_) (λz=>Tt.pure ?_);{have p:k<256:=U;refine Tt.J (λt=>∃d,t=((c:Int),(k:Int),a,d)/\d.length<=k+1/\(∀x∈d,∃b:Nat,b<256/\x=(b:Int))/\((∃b,b<k+1/\a.l[b]?=some (c:Int))->0<d.length)) (λP f=>?_) λt⟨d,s,g,e,u⟩=>?_;{refine waj p (Tt.at U ?_);obtain⟨i,g,e⟩:=h.lt k (a.l[k]'U) V;have B:wr .i64 (a.l[k]'U)=(i:Int):=by{rw[e];exact zbs U U};rw[B];refine wab (λA=>?_) λA=>f _ ⟨_,rfl,U,w,λ⟨b,m,o⟩=>?_⟩;{have D:wr .u8 (k:Int)=(k:Int):=Qv U U;rw[D];refine wac _ (yp X U) (f _ ⟨_,rfl,X,λx F=>?_,λ_=>V⟩);grind};.refine v ⟨b,?_,o⟩;grind};.subst s;refine Tt.b1 ?_;dsimp only;rw[wI U U];exact q (256-(k+1)) _ U ⟨k+1,_,U,rfl,rfl,g,e,u⟩};.obtain⟨b,m⟩:=h.on c C;have u:=(wcl.1 m).1;have:=v ⟨b,U,m⟩;cases out with|nil=>{grind}|cons x r=>obtain⟨y,g,e⟩:=w x V;exact⟨y,g,by rw[e];rfl⟩
structure DSz(d:jd):Prop where
 c:∃n,ClsN d.1 n
 w:0<=d.2.1/\d.2.1<=256
 n:d.2.2.1.length<=300
 l:d.2.2.2.1.length<=300
 r:∀x∈d.2.2.1,x.length<=256
def DSz.zero:DSz (⟨replicate 256 0,wci⟩,0,[],[],()):=⟨⟨1,ClsN.zero⟩,V,V,V,V⟩
abbrev Wh:=List ((List UInt8)×Int×Unit)
abbrev DBS:=Int×Int×Int×Int×jl×(Arr 256 Int)×Int×(Arr 256 Int)×Int×(List Int)×(List (List Int))×(List Int)×(List (List Int))×(List Int)×(List (List Int))×Wh
def jfd(a:Wd):Tn (λe=>Yk e a) (λr=>True):=by have i:=a.h;unfold Yk;refine Tt.loop (λj t=>∃k w,k<=256/\j=256-k/\t=(w,a,(k:Int))) 256 waa ⟨0,0,U,Wab,rfl⟩ λj t⟨k,w,g,f,d⟩ l b=>?_;subst d;dsimp only;refine wad (λc=>?_) (λc=>Tt.pure trivial);refine Tt.at U (Tt.b1 (Tt.b1 ?_));rw[wI (z:=(k:Int)+1) U U];exact b (256-(k+1)) _ U ⟨k+1,_,U,rfl,rfl⟩
def jel(a:Wd):Tn (λb=>Z7 b a) (λr=>True):=by unfold Z7;exact Waj (jj8 a _) waa λr _=>Tt.pure trivial
structure DRt(d:jd):Prop where
 n0:0<d.2.2.1.length
 lab:d.2.2.2.1.length=d.2.2.1.length
 row:∀x∈d.2.2.1,(x.length:Int)=d.2.1
 nx:∀x∈d.2.2.1,∀y∈x, -1<=y/\y<(d.2.2.1.length:Int)
def z30{α:Type}{l:Wam α}{k:Nat}(h:k<l.length){P:α->Prop}(b:∀x∈l.take k,P x)(c:P l[k]):∀x∈l.take (k+1),P x:=λx a=>by rw[wcp h]at a;grind
def z0z(d:jd)(u:DSz d):Tn (λH=>yu H d) (λb=>b=true->DRt d):=by
 have S:=u.n;have T:=u.l;unfold yu;refine Tt.b1 (Tt.J (λs=>∃b,s=((d.2.2.1.length:Int),b,d)/\(b=false->0<d.2.2.1.length/\d.2.2.2.1.length=d.2.2.1.length)) (λI a=>?_) λs⟨b,e,p⟩=>?_)
 .refine Tt.b1 (wab (λc=>a _ ⟨_,rfl,λh=>by cases h⟩) λc=>wab (λc=>a _ ⟨_,rfl,λh=>by cases h⟩) λM=>?_);refine Waj (jel _) waa λr _=>wab (λc=>a _ ⟨_,rfl,λh=>by cases h⟩) λN=>(Waj (jfd _) waa λr _=>a _ ⟨_,rfl,λ_=>?_⟩)
  grind
 subst e;dsimp only;refine wab (λ_=>Tt.pure λh=>X) λc=>?_;obtain⟨C,D⟩:=p c;refine Tt.J (λb=>b=true->DRt d) (λI a=>?_) λs e=>Tt.pure e;refine Tt.loop (λm s=>∃k,k<=d.2.2.1.length/\m=d.2.2.1.length-k/\s=((d.2.2.1.length:Int),true,d.2.2.1,(d.2.2.1.length:Int),(k:Int),d)/\∀x∈d.2.2.1.take k,(x.length:Int)=d.2.1/\∀y∈x, -1<=y/\y<(d.2.2.1.length:Int)) d.2.2.1.length waa ⟨0,U,Wab,rfl,V⟩ λm s⟨k,P,F,e,t⟩ R z=>?_;subst e;dsimp only;refine wab (λc=>?_) (λc=>a.fst _ λ_=>?_);{have c:=wcj c;have o:k<d.2.2.1.length:=U;have G:=u.r _ (wcm o);refine Tt.at o (Tt.J (λs=>∃b,s=((d.2.2.1.length:Int),true,d.2.2.1[k],d.2.2.1,(d.2.2.1.length:Int),(k:Int),b,d)/\(b=false->((d.2.2.1[k]).length:Int)=d.2.1)) (λL f=>?_) λs⟨b,e,p⟩=>?_);{refine Tt.b1 (wad (λc=>f _ ⟨_,rfl,λh=>by cases h⟩) λc=>?_);exact Tt.at U (f _ ⟨_,rfl,λ_=>U⟩)};.subst e;dsimp only;refine wab (λ_=>a.fst _ λh=>X) λc=>?_;have A:=p c;refine Tt.loop (λm s=>∃j,j<=(d.2.2.1[k]).length/\m=(d.2.2.1[k]).length-j/\s=((d.2.2.1.length:Int),true,d.2.2.1,(d.2.2.1.length:Int),(k:Int),d.2.2.1[k],((d.2.2.1[k]).length:Int),(j:Int),d)/\∀y∈(d.2.2.1[k]).take j, -1<=y/\y<(d.2.2.1.length:Int)) (d.2.2.1[k]).length waa.fst ⟨0,U,U,rfl,V⟩ λm s⟨j,O,F,e,i⟩ L f=>?_;subst e;dsimp only;refine wab (λc=>?_) (λc=>?_);{have c:=wcj c;have g:j<(d.2.2.1[k]).length:=U;refine Tt.at g (Tt.J (λs=>∃b,s=((d.2.2.1.length:Int),true,d.2.2.1,(d.2.2.1.length:Int),(k:Int),d.2.2.1[k],((d.2.2.1[k]).length:Int),(j:Int),b,d)/\(b=false -> -1<=(d.2.2.1[k])[j]/\(d.2.2.1[k])[j]<(d.2.2.1.length:Int))) (λQ q=>?_) λs⟨b,e,p⟩=>?_);{refine Tt.b1 (wab (λc=>q _ ⟨_,rfl,λh=>X⟩) λc=>q _ ⟨_,rfl,λh=>?_⟩);grind};.subst e;dsimp only;refine wab (λ_=>a.fst.fst _ λh=>X) λc=>wai ?_;exact f ((d.2.2.1[k]).length-(j+1)) _ U ⟨j+1,U,rfl,rfl,z30 g i (p c)⟩};.have c:=wck c;have v:j=(d.2.2.1[k]).length:=U;rw[v,wc8]at i;refine wai ?_;exact(z (d.2.2.1.length-(k+1)) _ U ⟨k+1,U,rfl,rfl,z30 o t ⟨A,i⟩⟩).fst};.have c:=wck c;have w:k=d.2.2.1.length:=U;rw[w,wc8]at t;exact⟨C,D,λx B=>(t x B).1,λx B=>(t x B).2⟩
end
end Go.Proofs.YtiafpechgjopfaaGreatDoor.T
namespace Go.Proofs.YtiafpechgjopfaaGreatDoor
noncomputable section
open _root_.Go.Proofs.Tryz
set_option maxRecDepth 100000
set_option maxHeartbeats 8000000
set_option linter.unusedVariables false
set_option linter.unusedSimpArgs false
set_option linter.defProp false
open List (replicate range)
open Go Go.RowKit L
def at'{α:Type}[Inhabited α](l:List α)(z:Int):α:=l.getD z.toNat default
def vk{α:Type}[Inhabited α]{l:Wam α}{k:Nat}(h:k<l.length):at' l (k:Int)=l[k]:=by unfold at';grind
def at_get{α:Type}[Inhabited α]{l:Wam α}{k:Nat}{x:α}(h:l[k]?=some x):at' l (k:Int)=x:=by unfold at';simp[h]
def zg3{α:Type}[Inhabited α]{l:Wam α}{z:Int}(h0:0<=z)(b:z<l.length):at' l z∈l:=by obtain⟨k,rfl⟩:=wdy h0;have a:k<l.length:=U;rw[vk a];simp
def zbb{α:Type}[Inhabited α]{l:Wam α}{k:Nat}(h:k<l.length)(x:α):x∈l.take (k+1)↔x∈l.take k\/x=at' l (k:Int):=by rw[wcp h,vk h,wcu];simp
def jsf{l:Wam Bool}{z:Int}{j:Nat}(h0:0<=z)(a:z<l.length):onB (l.set z.toNat true) j↔(j:Int)=z\/onB l j:=by rw[Qb U];grind
structure SpI(n:Nat)(E:Nat->Nat->Prop)(S:Nat->Prop)(c:Nat)(l:List Bool)(w:List Int):Prop where
 h1:l.length=n
 h2:∀x∈w,0<=x/\x<n/\onB l x.toNat
 h3:∀i,onB l i->Rch E S i
 h4:∀i,S i->onB l i
 h5:∀i j,onB l i->E i j->onB l j\/(i:Int)∈w
 h6:w.length+offs l<=c
def SpI.done{n c:Nat}{E:Nat->Nat->Prop}{S:Nat->Prop}{l:Wam Bool}(h:SpI n E S c l []):l=zao n E S:=z82 h.h1 h.h3 h.h4 λi j b a=>by rcases h.h5 i j b a with h|h;{omega};grind
structure SpJ(n:Nat)(E:Nat->Nat->Prop)(S:Nat->Prop)(c M:Nat)(x:Nat)(nx:List Int)(k:Nat)(l:List Bool)(w:List Int):Prop where
 j1:l.length=n
 j2:∀y∈w,0<=y/\y<n/\onB l y.toNat
 j3:∀i,onB l i->Rch E S i
 j4:∀i,S i->onB l i
 j5:∀i j,onB l i->E i j->onB l j\/(i:Int)∈w\/i=x
 j6:∀y∈nx.take k,onB l y.toNat
 j7:onB l x
 j8:w.length+offs l<=c
 j9:2*offs l+w.length<=M
section
variable{n c M x k:Nat}{E:Nat → Nat → Prop}{S:Nat → Prop}{l:List Bool}{w nx:List Int}
def SpI.pop{z:Int}(h:SpI n E S c l (z::w)):0<=z/\z<n/\SpJ n E S c (2*offs l+w.length) z.toNat nx 0 l w:=by obtain⟨d,e,f⟩:=h.h2 z V;refine⟨d,e,h.h1,λy g=>h.h2 y X,h.h3,h.h4,λi j b a=>?_,V,f,by have:=h.h6;grind,wcs _⟩;rcases h.h5 i j b a with h|h;{grind};grind
def SpJ.same(h:SpJ n E S c M x nx k l w)(b:k<nx.length)(h0:0<=nx[k])(e:onB l (nx[k]).toNat):SpJ n E S c M x nx (k+1) l w:=⟨h.j1,h.j2,h.j3,h.j4,h.j5,λy d=>by
 rcases(zbb b y).1 d with a|a;{exact h.j6 y a};.rw[vk b]at a;grind,h.j7,h.j8,h.j9⟩
def SpJ.push(h:SpJ n E S c M x nx k l w)(q:k<nx.length)(h0:0<=nx[k])(r:nx[k]<n)(s:E x (nx[k]).toNat)(u:l[(nx[k]).toNat]?=some false):SpJ n E S c M x nx (k+1) (l.set (nx[k]).toNat true) (w++[nx[k]]):=by have g:(nx[k]).toNat<l.length:=X;have v:=zq2 u;have m:∀{i},onB l i->onB (l.set (nx[k]).toNat true) i:=λ{i}f=>(Qb g).2 (.inr f);refine⟨by simpa using h.j1,λy o=>?_,λi f=>?_,λi f=>m (h.j4 i f),λi j f t=>?_,λy o=>?_,m h.j7,by have:=h.j8;grind,by have:=h.j9;grind⟩;{rcases wcu.1 o with e|e;{obtain⟨a,b,d⟩:=h.j2 y e;grind};.simp at e;subst e;exact⟨h0,r,(Qb g).2 (.inl rfl)⟩};{rcases(Qb g).1 f with e|e;{exact e ▸ .step (h.j3 x h.j7) s};.exact h.j3 i e};{rcases(Qb g).1 f with e|e;{grind};.rcases h.j5 i j e t with p|p|p;{grind};{grind};omega};.rcases(zbb q y).1 o with e|e;{exact m (h.j6 y e)};.rw[vk q]at e;subst e;exact(Qb g).2 (.inl rfl)
def SpJ.out(h:SpJ n E S c M x nx nx.length l w)(e:∀j,E x j->(j:Int)∈nx):SpI n E S c l w:=⟨h.j1,h.j2,h.j3,h.j4,λi j d b=>by
 rcases h.j5 i j d b with a|a|a;{grind};{grind};.subst a;have:=h.j6 (j:Int) X;grind,h.j8⟩
end
end
end Go.Proofs.YtiafpechgjopfaaGreatDoor
namespace Go.Proofs.YtiafpechgjopfaaGreatDoor.T
noncomputable section
open _root_.Go.Proofs.Tryz
set_option maxRecDepth 100000
set_option maxHeartbeats 8000000
set_option linter.unusedVariables false
set_option linter.unusedSimpArgs false
set_option linter.defProp false
open List (replicate range)
open Go Go.RowKit L
structure MOk(d:jd):Prop where
 n0:0<d.2.2.1.length
 lab:d.2.2.2.1.length=d.2.2.1.length
 w:0<=d.2.1/\d.2.1<=256
 row:∀i:Int,0<=i->i<d.2.2.1.length->((at' d.2.2.1 i).length:Int)=d.2.1
 nx:∀i c:Int,0<=i->i<d.2.2.1.length->0<=c->c<d.2.1 -> -1<=at' (at' d.2.2.1 i) c/\at' (at' d.2.2.1 i) c<d.2.2.1.length
def DRt.m{d:jd}(h:DRt d)(f:DSz d):MOk d:=⟨h.n0,h.lab,f.w,λi h0 a=>h.row _ (zg3 h0 a),λi c h0 a b e=>by
 have g:=h.row _ (zg3 h0 a);exact h.nx _ (zg3 h0 a) _ (zg3 b U)⟩
def nxt(d:jd)(i:Nat)(c:Int):Int:=at' (at' d.2.2.1 i) c
def dE(d:jd)(i j:Nat):Prop:=i<d.2.2.1.length/\∃c:Int,0<=c/\c<d.2.1/\nxt d i c=j
def Jb(d:jd)(i:Nat):Int:=at' d.2.2.2.1 i
def jij{d:jd}(hm:MOk d){i:Nat}(hi:i<d.2.2.1.length){x:Int}:x∈at' d.2.2.1 i↔∃c,0<=c/\c<d.2.1/\nxt d i c=x:=by have e:=hm.row i U U;constructor;{intro h;obtain⟨c,a,rfl⟩:=wei h;exact⟨c,U,U,by unfold nxt;rw[vk a]⟩};.rintro⟨c,h0,b,rfl⟩;exact zg3 h0 U
abbrev onL(d:jd)(i:Nat):List Int:=(at' d.2.2.1 i).filter λx=>decide (0<=x)
def jce(d:jd)(hm:MOk d)(i:Nat)(hi:i<d.2.2.1.length):(onL d i).length<=256/\(∀x∈onL d i,0<=x/\x<d.2.2.1.length)/\∀j:Nat,(j:Int)∈onL d i↔dE d i j:=by have k:=hm.w;have h:=hm.row i U U;refine⟨wdt (List.length_filter_le ..) U,λx g=>?_,λj=>?_⟩;{obtain⟨b,a⟩:=wey.1 g;obtain⟨c,e,f,rfl⟩:=(jij hm hi).1 b;have:=hm.nx i c U U e f;simp at a;exact⟨a,this.2⟩};.rw[wey,jij hm hi];unfold dE;grind
def zsf{α:Type}{l:Wam α}{k:Nat}(h:k<l.length)(p:α->Bool):(l.take (k+1)).filter p=if p l[k]then(l.take k).filter p++[l[k]]else(l.take k).filter p:=by rw[wcp h,we9];grind
def z40(d:jd)(j:DSz d)(hm:MOk d)(i:Nat)(hi:i<d.2.2.1.length):Tn (λn=>zga n d (i:Int)) (λr=>r=onL d i):=by have e:=vk hi;have g:=j.r _ (wcm hi);unfold onL;rw[e];unfold zga;refine Tt.at hi ?_;generalize d.2.2.1[i]=row at g;refine Tt.loop (λm s=>∃k,k<=row.length/\m=row.length-k/\s=(row,(row.length:Int),(k:Int),(row.take k).filter λx=>decide (0<=x))) row.length waa ⟨0,U,rfl,V⟩ ?_;rintro _ _ ⟨k,o,rfl,rfl⟩ p f;dsimp only;refine wad (λc=>?_) λc=>?_;{have b:k<row.length:=U;refine Tt.J (λs=>s=(row,(row.length:Int),(k:Int),(row.take (k+1)).filter λx=>decide (0<=x))) (λq a=>?_) λs l=>?_;{refine Tt.at b ?_;rw[zsf b]at a;refine wab (λh=>?_) λh=>?_;{rw[if_pos h]at a;refine wac _ (yp X U) (a _ rfl)};.rw[if_neg X]at a;exact a _ rfl};.subst l;refine Tt.b1 ?_;dsimp only;rw[wI U U];exact f (row.length-(k+1)) _ U ⟨k+1,U,rfl,rfl⟩};.have:k=row.length:=U;subst this;rw[wc8];exact Tt.pure rfl
def MkI(n:Nat)(a:Wa)(k:Nat)(l:Wb):Prop:=l.length=n/\∀i:Nat,onB l i↔(i:Int)∈a.take k
def MkI.zero{n:Nat}{a:Wa}:MkI n a 0 (replicate n false):=⟨V,λi=>by simp[zxn]⟩
def MkI.next{n k:Nat}{a:Wa}{l:Wb}(h:MkI n a k l)(b:k<a.length)(h0:0<=a[k])(c:a[k]<n):MkI n a (k+1) (l.set (a[k]).toNat true):=⟨by simpa using h.1,λi=>by
 rw[jsf h0 (by rw[h.1];omega),h.2,zbb b,vk b];grind⟩
def MkI.sp{n c:Nat}{a:Wa}{l:Wb}{E:Nat->Nat->Prop}(h:MkI n a a.length l)(e:∀x∈a,0<=x/\x<n)(f:a.length+n<=c):SpI n E (λi=>(i:Int)∈a) c l a:=by have d:∀i,onB l i↔(i:Int)∈a:=λi=>by{rw[h.2,wc8]};refine⟨h.1,λx g=>?_,λi b=> .base ((d i).1 b),λi b=>(d i).2 b,λi j b _=> .inr ((d i).1 b),by have:=z7n l;rw[h.1]at this;omega⟩;grind
def off1{α:Type}{x:α}{l:Wam α}:zrh (x::l) 1=some 1:=by unfold zrh;grind
theorem zuu(d:jd)(H:DSz d){b:Bool}(hb:Tn (λnn=>yu nn d) (· = b)):Tn (λnn=>Vy nn d) (λr=>b=false/\r=[]\/b=true/\MOk d/\r=zao d.2.2.1.length (dE d) (λi=>i=0)):=by
 have hn:=H.n;obtain⟨b',R,hq⟩:=(z0z d H).val;have hR:b=true->MOk d:=λh=>by
  obtain⟨c,⟨N,h1⟩,rfl⟩:=hb;obtain⟨c',⟨N',Q⟩,rfl⟩:=R;have e:=(h1 (max N N') (by omega)).symm.trans (Q (max N N') (by omega));have e:=wd4 e;exact(hq (e▸h)).m H
 unfold Vy;refine Waj hb waa λr Y=>?_;subst Y;cases r with
 |false=>exact wah rfl (Tt.pure (.inl ⟨rfl,rfl⟩))
 |true=>
 have L:=hR rfl;have h0:=L.n0;refine wae rfl (wac _ (mkN (by omega) (by omega)) (wac _ (sm7 (by simp)) ?_));have A:∀x∈[(0:Int)],0<=x/\x<d.2.2.1.length:=λx hx=>by grind
 refine Tt.loop (λm s=>∃k l,k<=1/\m=1-k/\s=([0],([(0:Int)].length:Int),(k:Int),d,l,[0])/\MkI d.2.2.1.length [0] k l) 1 waa ⟨0,_,by omega,rfl,rfl,MkI.zero⟩ ?_;rintro _ _ ⟨k,l,hk,rfl,rfl,t⟩ nx T;dsimp only;refine wad (λc=>?_) λc=>?_
 ·have u:k<[(0:Int)].length:=by omega
  obtain⟨z0,z1⟩:=A _ (wcm u);refine Tt.at u ?_;have h2:=t.next u z0 z1
  generalize [(0:Int)][k]=z at h2 z0 z1;obtain⟨q,rfl⟩:=wdy z0;refine waj (by rw[t.1];omega) (wac _ (zr _ (by rw[t.1];omega)) (wai ?_));exact T (1-(k+1)) _ (by grind) ⟨k+1,_,by grind,rfl,rfl,by simpa using h2⟩
 ·have:k=[(0:Int)].length:=by grind
  subst this;have Z:=t.sp (E:=dE d) (c:=1+d.2.2.1.length) A (by simp);refine Tt.loop (λm s=>∃l w,s=(d,l,w)/\m=2*offs l+w.length/\SpI d.2.2.1.length (dE d) (λi=>(i:Int)∈[(0:Int)]) (1+d.2.2.1.length) l w) _ waa.fst ⟨l,[0],rfl,rfl,Z⟩ ?_;rintro _ _ ⟨l,w,rfl,rfl,hi⟩ b8 B;dsimp only;cases w with
  |nil=>
   refine wae rfl (Tt.pure (.inr ⟨rfl,L,?_⟩));rw[hi.done];simp
  |cons x w=>
   obtain⟨x0,x1,I⟩:=hi.pop (nx:=onL d x.toNat);obtain⟨q,rfl⟩:=wdy x0;simp only[wcy]at I;have F:q<d.2.2.1.length:=by omega
   obtain⟨f1,f2,f3⟩:=jce d L q F;refine wah (wdg (by simp)) (wac (0:Int) (yj (by simp)) (wac ((q:Nat):Int) rfl (wac 1 off1 ?_)));refine Waj (z40 d H L q F) waa.fst.fst λr Y=>?_;subst Y;refine Tt.loop (λm s=>∃k v O,k<=(onL d q).length/\m=(onL d q).length-k/\s=(onL d q,((onL d q).length:Int),(k:Int),d,v,O)/\SpJ d.2.2.1.length (dE d) (λi=>(i:Int)∈[(0:Int)]) (1+d.2.2.1.length) (2*offs l+w.length) q (onL d q) k v O) _ waa.fst.fst ⟨0,l,w,by omega,rfl,rfl,I⟩ ?_;rintro _ _ ⟨k,v,O,b5,rfl,rfl,o⟩ b9 C;dsimp only;refine wad (λc2=>?_) λc2=>?_
   ·have a:k<(onL d q).length:=by omega
    obtain⟨G,y1⟩:=f2 _ (wcm a);have hE:=(f3 ((onL d q)[k]).toNat).1 (by rw[Int.toNat_of_nonneg G];exact wcm a);have j8:=o.j8;refine Tt.J (λs=>∃M P,s=(onL d q,((onL d q).length:Int),(k:Int),d,M,P)/\SpJ d.2.2.1.length (dE d) (λi=>(i:Int)∈[(0:Int)]) (1+d.2.2.1.length) (2*offs l+w.length) q (onL d q) (k+1) M P) (λny D=>?_) λs⟨M,P,hs,S⟩=>?_
    ·have g:=o.same a G;have f:=o.push a G y1 hE;refine Tt.at a ?_;generalize (onL d q)[k]=y at G y1 g f;obtain⟨j,rfl⟩:=wdy G;simp only[wcy]at g f;have p:j<v.length:=by rw[o.j1];omega
     refine waj p (Tt.at p ?_);cases hv:v[j]with
     |true=>exact wae rfl (D _ ⟨_,_,rfl,g (by unfold onB;grind)⟩)
     |false=>
      exact wah rfl (waj p (wac _ (zr _ p) (wac _ (yp (by grind) (by omega)) (D _ ⟨_,_,rfl,f (by grind)⟩))))
    ·subst hs;refine Tt.b1 ?_;dsimp only;rw[wI (by omega) (by omega)];exact C ((onL d q).length-(k+1)) _ (by omega) ⟨k+1,M,P,by omega,rfl,rfl,S⟩
   ·have:k=(onL d q).length:=by omega
    subst this;exact Tt.fst (B _ _ (by have:=o.j9;grind) ⟨v,O,rfl,rfl,o.out λj I=>(f3 j).2 I⟩)
structure BkI(d:jd)(k t:Nat)(back:List (List Int)):Prop where
 l:back.length=d.2.2.1.length
 r:∀(j:Nat)(x:List Int),back[j]?=some x->x.length<=256*k+t/\∀i:Int,i∈x↔∃q:Nat,i=q/\((q<k/\dE d q j)\/(q=k/\(j:Int)∈(onL d k).take t))
def BkI.zero{d:jd}:BkI d 0 0 (replicate d.2.2.1.length []):=⟨V,λj x h=>by
 grind⟩
def BkI.up{d:jd}{k:Nat}{back:W7}(h:BkI d k (onL d k).length back)(f:(onL d k).length<=256)(e:∀j:Nat,(j:Int)∈onL d k↔dE d k j):BkI d (k+1) 0 back:=⟨h.l,λj x a=>by
 obtain⟨b,c⟩:=h.r j x a;grind⟩
def BkI.add{d:jd}{k t:Nat}{back:W7}(h:BkI d k t back){j:Nat}(a:t<(onL d k).length)(f:(onL d k)[t]=(j:Int))(m:j<back.length):BkI d k (t+1) (back.set j (back[j]++[(k:Int)])):=⟨by simpa using h.l,λn x b=>by
 rw[wdl]at b;split at b;{rename_i e;subst e;cases b;obtain⟨g,c⟩:=h.r j _ (wch m);refine⟨X,λi=>?_⟩;rw[wcu,c,wcr];constructor;{rintro(⟨q,rfl,h|h⟩|rfl);{grind};{grind};.exact⟨k,rfl,.inr ⟨rfl,(zbb a _).2 (.inr (by rw[vk a,f]))⟩⟩};grind};.rename_i e;obtain⟨g,c⟩:=h.r n x b;refine⟨U,λi=>(c i).trans ?_⟩;constructor;{grind};.rintro⟨q,rfl,h|⟨rfl,h⟩⟩;{grind};.rcases(zbb a _).1 h with h|h;{grind};.rw[vk a,f]at h;omega⟩
def BgI(d:jd)(k:Nat)(a:Wa):Prop:=a.length<=k/\∀i:Int,i∈a↔∃q:Nat,i=q/\q<k/\0<=Jb d q
def jur{α:Type}{l:Wam (Wam α)}{j:Nat}(x:Wam α)(h:j<l.length):z3k (some ((j:Int).toNat)) l (j:Int) x=some (l.set j x):=by unfold z3k;simp[wet];exact zr x h
theorem jla(d:jd)(hd:DSz d){b:Bool}(hb:Tn (λnn=>yu nn d) (· = b)):Tn (λnn=>zb4 nn d) (λr=>b=false/\r=[]\/b=true/\MOk d/\r=zao d.2.2.1.length (λi j=>dE d j i) (λi=>i<d.2.2.1.length/\0<=Jb d i)):=by
 have hn:=hd.n;obtain⟨b',b9,hq⟩:=(z0z d hd).val;have hR:b=true->MOk d:=λh=>by
  obtain⟨c,⟨N,O⟩,rfl⟩:=hb;obtain⟨c',⟨N',b8⟩,rfl⟩:=b9;have e:=(O (max N N') (by omega)).symm.trans (b8 (max N N') (by omega));have e:=wd4 e;exact(hq (e▸h)).m hd
 unfold zb4;refine Waj hb waa λr hr=>?_;subst hr;cases r with
 |false=>exact wah rfl (Tt.pure (.inl ⟨rfl,rfl⟩))
 |true=>
 have hm:=hR rfl;have h0:=hm.n0;have d6:=hm.lab;refine wae rfl (Tt.b1 (wac _ (mkN (by omega) (by omega)) ?_));refine Tt.loop (λm s=>∃(k:Nat)(f:List Int)(a:List (List Int)),k<=d.2.2.1.length/\m=d.2.2.1.length-k/\s=(d.2.2.2.1,(d.2.2.2.1.length:Int),(k:Int),d,f,a)/\BgI d k f/\BkI d k 0 a) d.2.2.1.length waa ⟨0,[],_,by omega,rfl,rfl,⟨by simp,λi=>by simp⟩,BkI.zero⟩ ?_;rintro _ _ ⟨k,f,a,hk,rfl,rfl,p,P⟩ nx c5;dsimp only;refine wab (λc=>?_) λc=>?_
 ·have c:=wcj c;have a1:k<d.2.2.1.length:=by omega
  have a0:k<d.2.2.2.1.length:=by omega
  obtain⟨f1,f2,f3⟩:=jce d hm k a1;refine Tt.J (λs=>∃(B:List Int)(g:List (List Int)),s=(d.2.2.2.1,(d.2.2.2.1.length:Int),(k:Int),d,B,g)/\BgI d (k+1) B/\BkI d (k+1) 0 g) (λny I=>?_) λs⟨B,g,hs,D,R⟩=>?_
  ·refine Tt.at a0 (Waj (z40 d hd hm k a1) waa.fst λr hr=>?_);subst hr;refine Tt.loop (λm s=>∃(t:Nat)(g:List (List Int)),t<=(onL d k).length/\m=(onL d k).length-t/\s=((k:Int),d.2.2.2.1[k],d.2.2.2.1,(d.2.2.2.1.length:Int),(k:Int),onL d k,((onL d k).length:Int),(t:Int),d,f,g)/\BkI d k t g) _ waa.fst ⟨0,a,by omega,rfl,rfl,P⟩ ?_;rintro _ _ ⟨t,g,ht,rfl,rfl,D⟩ d1 H;dsimp only;refine wab (λG=>?_) λG=>?_
   ·have G:=wcj G;have u:t<(onL d k).length:=by omega
    obtain⟨S,y1⟩:=f2 _ (wcm u);refine Tt.at u ?_;obtain⟨j,Q⟩:=wdy S;rw[Q]at y1⊢;have o:j<g.length:=by rw[D.l];omega
    have c1:=(D.r j _ (wch o)).1;refine waj o (Tt.at o (wac (g[j]++[(k:Int)]) (by rw[atN o];exact yp (by simp;omega) (by omega)) (waj o (wac _ (jur _ o) (wai ?_)))));exact H ((onL d k).length-(t+1)) _ (by omega) ⟨t+1,_,by omega,rfl,rfl,D.add u Q o⟩
   ·have G:=wck G;have:t=(onL d k).length:=by omega
    subst this;have a7:=D.up f1 f3;have hl:Jb d k=d.2.2.2.1[k]:=vk a0;refine wab (λY=>?_) λY=>?_
    ·have Y:=wcj Y;refine wac _ (yp (by have:=p.1;grind) (by omega)) (I.fst _ ⟨_,g,rfl,⟨by have:=p.1;grind,λi=>?_⟩,a7⟩);rw[wcu,p.2,wcr]
     grind
    ·have Y:=wck Y;refine I.fst _ ⟨f,g,rfl,⟨by have:=p.1;omega,λi=>(p.2 i).trans ?_⟩,a7⟩
     grind
  ·subst hs;refine Tt.b1 ?_;dsimp only;rw[wI (by omega) (by omega)];exact c5 (d.2.2.1.length-(k+1)) _ (by omega) ⟨k+1,B,g,by omega,rfl,rfl,D,R⟩
 ·have c:=wck c;have:k=d.2.2.1.length:=by omega
  subst this;have Z:∀x∈f,0<=x/\x<d.2.2.1.length:=λx hx=>by
   obtain⟨q,rfl,O,_⟩:=(p.2 x).1 hx;omega
  have a6:∀x(hx:x<a.length),(a[x]).length<=256*d.2.2.1.length/\(∀y∈a[x],0<=y/\y<d.2.2.1.length)/\∀j:Nat,(j:Int)∈a[x]↔dE d j x:=λx hx=>by
   obtain⟨O,M⟩:=P.r x _ (wch hx);refine⟨by omega,λy hy=>?_,λj=>(M j).trans ?_⟩
   ·grind
   ·constructor
    ·grind
    ·intro h;exact⟨j,rfl,.inl ⟨h.1,h⟩⟩
  refine wac _ (mkN (by omega) (by omega)) (wac _ (sm7 (by have:=p.1;omega)) ?_);refine Tt.loop (λm s=>∃k l,k<=f.length/\m=f.length-k/\s=(some a,(f.length:Int),(k:Int),f,l,f)/\MkI d.2.2.1.length f k l) _ waa.fst ⟨0,_,by omega,rfl,rfl,MkI.zero⟩ ?_;rintro _ _ ⟨k,l,R,rfl,rfl,L⟩ e2 a3;dsimp only;refine wab (λc0=>?_) λc0=>?_
  ·have c0:=wcj c0;have u:k<f.length:=by omega
   obtain⟨z0,z1⟩:=Z _ (wcm u);refine waj u (Tt.at u ?_);have M:=L.next u z0 z1
   generalize f[k]=z at M z0 z1;obtain⟨q,rfl⟩:=wdy z0;refine waj (by rw[L.1];omega) (wac _ (zr _ (by rw[L.1];omega)) (Tt.b1 ?_));have:=p.1;rw[wI (by omega) (by omega)];exact a3 (f.length-(k+1)) _ (by omega) ⟨k+1,_,by omega,rfl,rfl,by simpa using M⟩
  ·have c0:=wck c0;have:k=f.length:=by omega
   subst this;have c8:=L.sp (E:=λi j=>dE d j i) (c:=f.length+d.2.2.1.length) Z (by omega);have c1:=p.1;refine Tt.loop (λm s=>∃l w,s=(some a,f,l,w)/\m=2*offs l+w.length/\SpI d.2.2.1.length (λi j=>dE d j i) (λi=>(i:Int)∈f) (f.length+d.2.2.1.length) l w) _ waa.fst.fst ⟨l,f,rfl,rfl,c8⟩ ?_;rintro _ _ ⟨l,w,rfl,rfl,hi⟩ d1 H;dsimp only;cases w with
   |nil=>
    refine wae rfl (Tt.pure (.inr ⟨rfl,hm,?_⟩));rw[hi.done];congr 1;funext i;rw[p.2];refine propext ⟨λ⟨q,hq,O,M⟩=>?_,λ⟨O,M⟩=>⟨i,rfl,O,M⟩⟩;have:i=q:=by omega
    subst this;exact⟨O,M⟩
   |cons x w=>
    have c9:=(hi.h2 x (by simp)).1;have e1:=(hi.h2 x (by simp)).2.1;obtain⟨q,rfl⟩:=wdy c9;have a5:q<a.length:=by rw[P.l];omega
    obtain⟨f1,f2,f3⟩:=a6 q a5;obtain⟨_,_,Q⟩:=hi.pop;simp[wcy]at Q;refine wah (wdg (by simp)) (wac (0:Int) (yj (by simp)) (wac ((q:Nat):Int) rfl (wac 1 off1 (Tt.b1 (Tt.at a5 ?_)))));refine Tt.loop (λm s=>∃(k:Nat)(T:List Bool)(w2:List Int),k<=(a[q]).length/\m=(a[q]).length-k/\s=(some a,a[q],((a[q]).length:Int),(k:Int),f,T,w2)/\SpJ d.2.2.1.length (λi j=>dE d j i) (λi=>(i:Int)∈f) (f.length+d.2.2.1.length) (2*offs l+w.length) q a[q] k T w2) _ waa.fst.fst.fst ⟨0,l,w,by omega,rfl,rfl,Q⟩ ?_;rintro _ _ ⟨k,T,w2,R,rfl,rfl,F⟩ e3 a4;dsimp only;refine wab (λG=>?_) λG=>?_
    ·have G:=wcj G;have C:k<(a[q]).length:=by omega
     obtain⟨S,y1⟩:=f2 _ (wcm C);have hE:=(f3 ((a[q])[k]).toNat).1 (by rw[Int.toNat_of_nonneg S];simp);have j8:=F.j8;refine Tt.J (λs=>∃(l3:List Bool)(w3:List Int),s=(some a,a[q],((a[q]).length:Int),(k:Int),f,l3,w3)/\SpJ d.2.2.1.length (λi j=>dE d j i) (λi=>(i:Int)∈f) (f.length+d.2.2.1.length) (2*offs l+w.length) q a[q] (k+1) l3 w3) (λny I=>?_) λs⟨l3,w3,hs,c4⟩=>?_
     ·have A:=F.same C S;have v:=F.push C S y1 hE;refine Tt.at C ?_;generalize (a[q])[k]=y at S y1 A v;obtain⟨j,rfl⟩:=wdy S;simp[wcy]at A v;have o:j<T.length:=by rw[F.j1];omega
      refine waj o (Tt.at o ?_);cases hv:T[j]with
      |true=>exact wae rfl (I _ ⟨_,_,rfl,A (by unfold onB;grind)⟩)
      |false=>
       exact wah rfl (waj o (wac _ (zr _ o) (wac _ (yp (by simp;omega) (by omega)) (I _ ⟨_,_,rfl,v (by grind)⟩))))
     ·subst hs;refine Tt.b1 ?_;dsimp only;rw[wI (by omega) (by omega)];exact a4 ((a[q]).length-(k+1)) _ (by omega) ⟨k+1,l3,w3,by omega,rfl,rfl,c4⟩
    ·have G:=wck G;have:k=(a[q]).length:=by omega
     subst this;exact Tt.fst (H _ _ (by have:=F.j9;grind) ⟨T,w2,rfl,rfl,F.out λj Q=>(f3 j).2 Q⟩)
abbrev zD:jd:=(⟨replicate 256 0,wci⟩,0,[],[],())
def z5p(g:jb)(a:zag g)(y:jd×W7×Unit):Tn (λc=>Z5 c (some (g,y))) (λd=>d=gFd g):=by unfold Z5;refine Tt.b1 (Waj (jhs g a) waa λr b=>Tt.pure b)
open Classical in
def zkr(l:List jh):Bool:=if h:∃r,Tn (λa=>yn a l) (λx=>x=r)then h.choose else false
def jdj(l:Wam jh)(b:l.length<=1000000):Tn (λa=>yn a l) (λx=>x=zkr l):=by
 obtain⟨r,h,_⟩:=(z6s l b).val;have c:∃r,Tn (λa=>yn a l) (λx=>x=r):=⟨r,h⟩
 unfold zkr;grind
def fs2(a c:Int):Wb->Nat->jc
 |[],_=>(0,0,0,())
 |b::l,i=>match b with
  |true=>fs2 a c l (i+1)
  |false=>(a,i,c,())
def jlg{g:jb}(j:zag g)(h:GOk g)(y:jd×W7×Unit):Tn (λn=>Z3 n (some (g,y))) (λd=>d=fs2 10 0 (g.1.map λx=>!zkr x.2.1) 0):=by have q:=h.t;unfold Z3;refine Tt.J (λd=>d=fs2 10 0 (g.1.map λx=>!zkr x.2.1) 0) (λu b=>?_) (λs i=>Tt.pure i);refine Tt.b1 (Tt.loop (λm s=>∃k,k<=g.1.length/\m=g.1.length-k/\s=(10,0,(g.1.length:Int),(k:Int),some (g,y),(0,0,0,()))/\fs2 10 0 (g.1.map λx=>!zkr x.2.1) 0=fs2 10 0 ((g.1.drop k).map λx=>!zkr x.2.1) k) g.1.length waa ⟨0,U,Wab,rfl,rfl⟩ λm s⟨k,o,p,i,e⟩ v f=>?_);subst i;dsimp only;refine wad (λc=>?_) (λc=>b.fst _ ?_);{have a:k<g.1.length:=U;rw[wcw a,wc7]at e;refine Tt.b1 (Tt.at a ?_);refine Waj (jdj _ (j.tn _ (wcm a))) waa.fst λr l=>?_;subst l;refine wab (λcb=>b.fst _ ?_) λcb=>Tt.b1 ?_;{have cb:zkr g.1[k].2.1=true:=X;rw[e,cb];rfl};.have cb:zkr g.1[k].2.1=false:=X;rw[wI U U];exact f (g.1.length-(k+1)) _ U ⟨k+1,U,rfl,V,by rw[e,cb];rfl⟩};.have:k=g.1.length:=U;subst this;rw[e,wed];rfl
def jl7(l:Wa)(x:Int)(h:l.length<=1000000):Tn (λf=>Jp f l x) (λr=>0<=r↔x∈l):=by unfold Jp;refine Tt.loop (λm s=>∃k,k<=l.length/\m=l.length-k/\s=(l,x,(l.length:Int),(k:Int))/\(x∈l↔x∈l.drop k)) l.length waa ⟨0,U,Wab,rfl,Iff.rfl⟩ λm s⟨k,g,i,e,d⟩ j b=>?_;subst e;dsimp only;refine wad (λc=>?_) (λc=>Tt.pure ?_);{have a:k<l.length:=U;rw[wcw a,wda]at d;refine Tt.at a (wad (λcb=>Tt.pure ?_) λcb=>Tt.b1 ?_);{grind};.rw[wI U U];exact b (l.length-(k+1)) _ U ⟨k+1,U,rfl,rfl,d.trans (or_iff_right cb)⟩};grind
def z7r(l:Wa)(x:Int)(a:l.length<=1000000):Tn (λb=>zi b l x) (λr=>r=decide (x∈l)):=by unfold zi;refine Waj (jl7 l x a) waa λr c=>Tt.pure ?_;grind
def jk9{g:jb}(x:g.1.length<=1000000)(d:jd)(t:W7){lt:Wa}(v:lt.length<=1000000)(q:Tn (λn=>Jd n d) (λr=>r=lt)):Tn (λn=>zu n (some (g,d,t,()))) (λd=>d=fs2 13 1 ((range g.1.length).map λ(i:Nat)=>decide ((i:Int)∈lt)) 0):=by
 unfold zu;refine Tt.b1 (Waj q waa λr w=>?_);subst w;obtain⟨L,o⟩:∃L,((range g.1.length).map λ(i:Nat)=>decide ((i:Int)∈r))=L:=⟨_,rfl⟩
 have p:L.length=g.1.length:=X;rw[o];refine Tt.J (λd=>d=fs2 13 1 L 0) (λA a=>Tt.b1 ?_) λs l=>Tt.pure l;refine Tt.loop (λm s=>∃k,k<=g.1.length/\m=g.1.length-k/\s=(13,1,(g.1.length:Int),(k:Int),r,(0,0,0,()))/\fs2 13 1 L 0=fs2 13 1 (L.drop k) k) g.1.length waa ⟨0,U,Wab,rfl,rfl⟩ λm s⟨k,y,z,l,e⟩ B j=>?_;subst l;dsimp only;refine wad (λc=>?_) (λc=>a.fst _ ?_);{have h:k<L.length:=U;have f:L[k]=decide ((k:Int)∈r):=X;rw[wcw h,f]at e;refine Waj (z7r r _ v) waa.fst λb u=>?_;subst u;refine wab (λcb=>a.fst _ ?_) λcb=>Tt.b1 ?_;{have cb:decide ((k:Int)∈r)=false:=X;rw[e,cb];rfl};.have cb:decide ((k:Int)∈r)=true:=X;rw[wI U U];exact j (g.1.length-(k+1)) _ U ⟨k+1,U,rfl,V,by rw[e,cb];rfl⟩};.have:k=L.length:=U;subst this;rw[e,wed];rfl
def z3y:∀{L:Wam jc},(jy L).1=0->jy L=zd
 |[],_=>rfl
 |d::l,h=>by unfold jy at h⊢;by_cases c:d.1=0;{rw[if_pos c]at h⊢;exact z3y h};grind
def jd8{a c:Int}(b:a≠0):∀{l:Wb}{i:Nat},(fs2 a c l i).1=0->fs2 a c l i=zd
 |[],_,_=>rfl
 |true::l,i,h=>jd8 b (i:=i+1) h
 |false::l,i,h=>absurd h b
def zqr(a:Nat)(e:Int)(lt:Wa):jc:=if e=0 then fs2 13 1 ((range a).map λ(i:Nat)=>decide ((i:Int)∈lt)) 0 else(16,0,0,())
def zdf(l:Wa)(x:Int)(i:l.length<=1000000):Tn (λf=>Vh f l x) (λr=>r=decide (x∈l)):=by unfold Vh;refine Tt.loop (λm s=>∃k,k<=l.length/\m=l.length-k/\s=(l,x,(k:Int))/\(x∈l↔x∈l.drop k)) l.length waa ⟨0,U,Wab,rfl,Iff.rfl⟩ λm s⟨k,g,j,e,d⟩ n b=>?_;subst e;dsimp only;refine wad (λc=>?_) (λc=>Tt.pure ?_);{have a:k<l.length:=U;rw[wcw a,wda]at d;refine Tt.at a (wad (λcb=>Tt.pure ?_) λcb=>Tt.b1 ?_);{grind};.rw[wI U U];exact b (l.length-(k+1)) _ U ⟨k+1,U,rfl,rfl,d.trans (or_iff_right λh=>cb h.symm)⟩};grind
def jc5(a b:Wa)(l:a.length<=1000000)(n:b.length<=1000000):Tn (λj=>zfs j a b) (λr=>r=decide (a=b)):=by unfold zfs;refine wad (λc=>Tt.pure ?_) λc=>?_;{exact(wc3 λh=>c (by rw[h])).symm};have p:a.length=b.length:=X;refine Tt.loop (λm s=>∃k,k<=a.length/\m=a.length-k/\s=(a,b,(k:Int))/\(a=b↔a.drop k=b.drop k)) a.length waa ⟨0,U,Wab,rfl,Iff.rfl⟩ λm s⟨k,o,q,i,g⟩ t f=>?_;subst i;dsimp only;refine wad (λc=>?_) (λc=>Tt.pure ?_);{have e:k<a.length:=U;have d:k<b.length:=U;rw[wcw e,wcw d,wfk]at g;refine Tt.at e (Tt.at d (wad (λcb=>Tt.pure ?_) λcb=>Tt.b1 ?_));{grind};.have cb:a[k]=b[k]:=U;rw[wI U U];exact f (a.length-(k+1)) _ U ⟨k+1,U,rfl,rfl,g.trans (and_iff_right cb)⟩};grind
def zes:W7->Wa->Nat->Int
 |[],_,_ => -1
 |y::l,x,i=>if y=x then(i:Int)else zes l x (i+1)
def jaz(l:W7)(x:Wa)(p:l.length<=1000000)(i:x.length<=1000000)(j:∀y∈l,y.length<=1000000):Tn (λn=>zfu n l x) (λr=>r=zes l x 0):=by
 unfold zfu;refine Tt.loop (λm s=>∃k,k<=l.length/\m=l.length-k/\s=(l,x,(k:Int))/\zes l x 0=zes (l.drop k) x k) l.length waa ⟨0,U,Wab,rfl,rfl⟩ λm s⟨k,o,q,h,d⟩ t e=>?_;subst h;dsimp only;refine wad (λc=>?_) (λc=>Tt.pure ?_)
 .have a:k<l.length:=U;rw[wcw a]at d;have f:zes (l[k]::l.drop (k+1)) x k=if l[k]=x then(k:Int)else zes (l.drop (k+1)) x (k+1):=rfl
  rw[f]at d;refine Tt.at a (Waj (jc5 _ x (j _ (wcm a)) i) waa.fst λb g=>?_);subst g;refine wad (λcb=>Tt.pure ?_) λcb=>Tt.b1 ?_;{grind};.rw[if_neg cb]at d;rw[wI U U];exact e (l.length-(k+1)) _ U ⟨k+1,U,rfl,rfl,d⟩
 .have:k=l.length:=U;subst this;rw[d,wed];rfl
def zyg{l:Wa}:jx l↔∀i a b,l[i]?=some a->l[i+1]?=some b->a<b:=by unfold jx;induction l with|nil=>{simp}|cons x l e=>rw[wdk,e];constructor;{grind};.intro h;have d:∀i a b,l[i]?=some a->l[i+1]?=some b->a<b:=λi a b j k=>h (i+1) a b X X;refine⟨λy c=>?_,d⟩;have f:=e.2 d;cases l with|nil=>{grind}|cons z l=>have g:=h 0 x z rfl rfl;rcases wda.1 c with rfl|c;{omega};.have:=(wdk.1 f).1 y c;omega
def z88(l:Wa)(u:l.length<=1000000):Tn (λq=>zdu q l) (λr=>r=true↔jx l):=by unfold zdu;refine Tt.loop (λm s=>∃k,m=l.length-k/\s=(l,((k+1:Nat):Int))/\∀i a b,i<k->l[i]?=some a->l[i+1]?=some b->a<b) l.length waa ⟨0,Wab,rfl,λi a b h=>U⟩ λm s⟨k,v,p,o⟩ w j=>?_;subst p;dsimp only;refine wad (λc=>?_) (λc=>Tt.pure ?_);{have f:k+1<l.length:=U;have d:k<l.length:=U;have e:T.w64 (((k+1:Nat):Int)-1)=(k:Int):=by{rw[wI U U];omega};rw[e];refine Tt.at d (Tt.at f (wad (λcb=>Tt.pure ?_) λcb=>Tt.b1 ?_));{refine⟨λh=>X,λh=>?_⟩;have:=zyg.1 h k _ _ (wch d) (wch f);omega};.rw[wI U U];refine j (l.length-(k+1)) _ U ⟨k+1,rfl,V,λi a b t n g=>?_⟩;grind};.refine⟨λ_=>zyg.2 λi a b n g=>?_,λ_=>rfl⟩;have:=(wcl.1 g).1;exact o i a b U n g
def zyn(s:We)(b:Nat):Int:=(s.l.getD (b / 64) 0).fdiv (2 ^ (min ((b % 64:Nat):Int).toNat 64))
def zk1(s:We)(b:Nat):Bool:=decide (¬(andI .u64 (zyn s b) 1=0))
def hsB(n:jl)(b:Nat)(i:Int):Bool:=match n.1[i.toNat]? with
 |some s=>zk1 s b
 |none=>false
def at4E(s:We){k:Nat}(a:k<4):atL s.l (k:Int)=some (s.l.getD k 0):=by have:k<s.l.length:=by{rw[s.2];omega};rw[atN this];grind
def shrE(s:We)(b:Nat):zvl .u64 (s.l.getD (b / 64) 0) ((b % 64:Nat):Int)=some (zyn s b):=by rfl
def z4o(n:jl)(A:n.1.length<=1000)(l:Wa)(p:RN n.1.length l)(b:Nat)(t:b<256):Tn (λy=>zef y n l (b:Int)) (λr=>r=l.filter (hsB n b)):=by
 have u:=p.len;unfold zef zia;refine Tt.loop (λm s=>∃(k:Nat)(out:Wa),k<=l.length/\m=l.length-k/\s=((b:Int),l,(l.length:Int),(k:Int),n,out)/\out=(l.take k).filter (hsB n b)) l.length waa ⟨0,_,U,U,rfl,V⟩ λm s⟨k,out,B,f,j,q⟩ C h=>?_;subst j;dsimp only;refine wab (λc=>?_) (λc=>?_)
 .have c:=wcj c;have d:k<l.length:=U;have v:out.length<=k:=by{grind};have x:=wcp d;refine Tt.J (λs=>∃a,s=((b:Int),l,(l.length:Int),(k:Int),n,a)/\a=(l.take (k+1)).filter (hsB n b)) (λD e=>?_) λs⟨a,j,i⟩=>?_
  .have w:=p.b _ (wcm d);refine Tt.at d (wac _ (jsd t) ?_);obtain⟨z,hz⟩:∃z:Nat,l[k]=(z:Int):=⟨(l[k]).toNat,U⟩
   rw[hz]at w x⊢;have o:z<n.1.length:=U;refine Tt.at o ?_;have f:hsB n b (z:Int)=zk1 n.1[z] b:=by{unfold hsB;grind};refine wac _ (at4E n.1[z] U) (wac _ (jiy b) (wac _ (shrE _ _) ?_));refine wab (λc=>?_) λc=>e _ ⟨_,rfl,?_⟩;{refine wac _ (yp X U) (e _ ⟨_,rfl,?_⟩);have g:=f.trans c;grind};.have g:=f.trans c;grind
  .subst j;refine Tt.b1 ?_;dsimp only;rw[wI U U];exact h (l.length-(k+1)) _ U ⟨k+1,_,U,rfl,rfl,i⟩
 .have c:=wck c;have:k=l.length:=U;subst this;rw[wc8]at q;exact Tt.pure q
def zfl(s:We):Prop:=∀k:Nat,0<=s.l.getD k 0/\s.l.getD k 0<18446744073709551616
def and1(m:Nat):andI .u64 (m:Int) 1=((m % 2:Nat):Int):=by unfold andI;have a:(BitVec.ofInt IntKind.u64.bits (m:Int) &&& BitVec.ofInt IntKind.u64.bits 1).toNat=m % 2:=by{show(BitVec.ofInt 64 (m:Int) &&& BitVec.ofInt 64 1).toNat=m % 2;simp};rw[a,ze5 U U]
def jkf{s:We}(a:zfl s)(b:Nat):∃m:Nat,zyn s b=(m:Int):=by
 unfold zyn;have h:=(a (b / 64)).1;obtain⟨w,c⟩:∃w:Nat,s.l.getD (b / 64) 0=(w:Int):=⟨(s.l.getD (b / 64) 0).toNat,U⟩
 rw[c];refine⟨w / 2 ^ (min ((b % 64:Nat):Int).toNat 64),?_⟩;grind
def zn8(s:We)(c:zfl s)(b:Nat)(g:b<256):Tn (λe=>Zf e s (b:Int)) (λr=>r=zk1 s b):=by obtain⟨m,a⟩:=jkf c b;have q:zwd .i64 (b:Int) 64=some ((b / 64:Nat):Int):=by{unfold zwd;rw[if_neg V,show((b:Int)).tdiv 64=((b / 64:Nat):Int)from(Int.ofNat_tdiv b 64).symm,zbs U U]};have r:=jiy b;have f:z2y .u64 (m:Int) 2=some ((m % 2:Nat):Int):=by{rfl};have d:jq 4 ((b / 64:Nat):Int)=some ((b / 64:Nat):Int):=by{unfold jq;grind};unfold Zf;rw[show wr .i64 (b:Int)=(b:Int)from zbs U U,show wr .u64 (b:Int)=(b:Int)from ze5 U U];refine wac _ q (wac _ d (wac _ (at4E s U) (wac _ r (wac _ (shrE s b) ?_))));rw[a];refine wac _ f (Tt.pure ?_);unfold zk1;rw[a,and1];grind
def zzv(n:jl)(H:n.1.length<=1000)(D:∀s∈n.1,zfl s)(l e:Wa)(o:e.length<=1000000)(A:RN n.1.length l)(B:∀x,x∈l↔x∈e/\0<=x/\x<n.1.length)(b:Nat)(w:b<256):Tn (λF=>zf3 F n e (b:Int)) (λr=>r=l.filter (hsB n b)):=by unfold zf3 zje;refine Tt.loop (λm s=>∃k out,k<=n.1.length/\m=n.1.length-k/\s=(e,(b:Int),(k:Int),n,out)/\out.length<=k/\jx out/\∀x,x∈out↔x∈e/\0<=x/\x<(k:Int)/\hsB n b x=true) n.1.length waa ⟨0,_,U,Wab,rfl,V,List.Pairwise.nil,λx=>⟨λh=>X,λh=>U⟩⟩ λm s⟨k,out,L,M,d,u,j,v⟩ N t=>?_;subst d;dsimp only;refine wad (λc=>?_) (λc=>?_);{have f:k<n.1.length:=U;have p:hsB n b (k:Int)=zk1 n.1[k] b:=by{unfold hsB;rw[wcy,wch f]};refine Tt.J (λs=>∃out,s=(e,(b:Int),(k:Int),n,out)/\out.length<=k+1/\jx out/\∀x,x∈out↔x∈e/\0<=x/\x<((k+1:Nat):Int)/\hsB n b x=true) (λO g=>?_) λs⟨out,d,u,j,v⟩=>?_;{refine Tt.J (λs=>s=(e,(b:Int),(k:Int),decide ((k:Int)∈e/\hsB n b (k:Int)=true),n,out)) (λP i=>?_) λs d=>?_;{refine Waj (zdf e (k:Int) o) waa.fst λh z=>?_;subst z;refine wad (λc=>?_) λc=>i _ ?_;{refine Tt.at f (Waj (zn8 n.1[k] (D _ (wcm f)) b w) waa.fst λq C=>i _ ?_);subst C;rw[<- p];simp[c]};grind};.subst d;dsimp only;refine wad (λc=>?_) λc=>g _ ⟨out,rfl,U,j,λx=>?_⟩;{refine wac _ (yp X U) (g _ ⟨_,rfl,X,?_,λx=>?_⟩);{unfold jx;rw[wel];exact⟨j,V,λa I G y=>X⟩};grind};grind};.subst d;refine Tt.b1 ?_;dsimp only;rw[wI U U];exact t (n.1.length-(k+1)) _ U ⟨k+1,out,U,rfl,rfl,u,j,v⟩};.have:k=n.1.length:=U;subst this;refine Tt.pure (z8q j (A.r.filter _) λx=>?_);grind
def jmj(l:Wa)(t:l.length<=1000000):Tn (λq=>zf1 q l) (λb=>b=true↔jx l):=by unfold zf1;have g:T.w64 ((l.length:Int)-1)=(l.length:Int)-1:=wI U U;rw[g];refine Tt.loop (λm s=>∃k,k<=l.length/\m=l.length-k/\s=(l,(l.length:Int)-1,(k:Int))/\∀i(h:i+1<l.length),i<k->l[i]<l[i+1]) l.length waa ⟨0,U,Wab,rfl,λi j n=>U⟩ λm s⟨k,r,u,p,o⟩ v d=>?_;subst p;dsimp only;refine wad (λc=>?_) (λc=>Tt.pure ⟨λ_=>ris_of λi h=>o i h X,λ_=>rfl⟩);have a:k+1<l.length:=U;have e:T.w64 ((k:Int)+1)=((k+1:Nat):Int):=wI U U;refine Tt.at U ?_;rw[e];refine Tt.at a (wad (λf=>Tt.pure ⟨λh=>X,λh=>?_⟩) λf=>Tt.b1 ?_);{have:=we2.1 h k (k+1) U a U;omega};rw[e];refine d (l.length-(k+1)) _ U ⟨k+1,U,rfl,rfl,λi j n=>?_⟩;grind
def z3w(N:Nat)(ls:W7)(v:ls.length<=1000000)(q:∀x∈ls,x.length<=1000000):Tn (λu=>zcw u (N:Int) ls) (λb=>b=true↔∀x∈ls,RN N x):=by
 unfold zcw;refine Tt.loop (λm s=>∃k,k<=ls.length/\m=ls.length-k/\s=((N:Int),ls,(ls.length:Int),(k:Int))/\∀x∈ls.take k,RN N x) ls.length waa ⟨0,U,U,rfl,V⟩ λm s⟨k,z,A,i,y⟩ B g=>?_;subst i;dsimp only;refine wad (λc=>?_) (λc=>Tt.pure ⟨λ_=>?_,λ_=>rfl⟩);rotate_left
 {grind};have d:k<ls.length:=U;have l:=wcm d;have j:=q _ l;refine Tt.at d (Tt.J (λs=>∃b,s=((N:Int),ls,(ls.length:Int),(k:Int),b)/\(b=false↔RN N ls[k])) (λC a=>?_) λs⟨b,i,w⟩=>?_);{refine Waj (jmj _ j) waa.fst λr e=>Tt.b1 (wab (λc=>a _ ⟨_,rfl,λh=>X,λh=>?_⟩) λc=>Tt.b1 ?_);{have c:r=false:=X;have:=e.2 h.r;grind};have e:=e.1 X;refine wab (λn=>?_) λn=>a _ ⟨_,rfl,λh=>jw9 e λf=>X,λ_=>rfl⟩;have f:0<(ls[k]).length:=X;refine wac _ (atN f) (Tt.b1 (wad (λo=>a _ ⟨_,rfl,λh=>X,λh=>?_⟩) λo=>?_));{have:=h.b _ (wcm f);omega};have p:T.w64 (((ls[k]).length:Int)-1)=(((ls[k]).length-1:Nat):Int):=by{rw[wI U U];omega};rw[p];refine Tt.at U (a _ ⟨_,rfl,λh=>jw9 e λf=>⟨U,?_⟩,λh=>wc3 ?_⟩);{grind};.have:=h.b _ (wcm (show(ls[k]).length-1<(ls[k]).length by omega));omega};.subst i;dsimp only;refine wab (λc=>Tt.pure ⟨λh=>X,λh=>?_⟩) λc=>Tt.b1 ?_;{grind};rw[wI U U];refine g (ls.length-(k+1)) _ U ⟨k+1,U,rfl,rfl,λx t=>?_⟩;rw[wcp d]at t;grind
def zuh(n:jl)(v:n.1.length<=1000000)(l:Wa)(p:l.length<=1000000):Tn (λu=>za2 u n l) (λb=>b=true↔RN n.1.length l):=by unfold za2;refine Tt.loop (λm s=>∃k,k<=l.length/\m=l.length-k/\s=(l,(k:Int),n)/\∀x∈l.take k,0<=x/\x<(n.1.length:Int)) l.length waa ⟨0,U,U,rfl,V⟩ λm s⟨k,w,y,g,j⟩ z f=>?_;subst g;dsimp only;refine wad (λc=>?_) (λc=>?_);{have a:k<l.length:=U;have i:=wcm a;refine Tt.J (λs=>∃b,s=(l,(k:Int),b,n)/\(b=false↔0<=l[k]/\l[k]<(n.1.length:Int))) (λA d=>?_) λs⟨b,g,o⟩=>?_;{refine Tt.at a (Tt.b1 (wab (λc=>d _ ⟨_,rfl,?_⟩) λc=>Tt.at a (d _ ⟨_,rfl,?_⟩)));{grind};grind};.subst g;dsimp only;refine wab (λc=>Tt.pure ⟨λh=>X,λh=>?_⟩) λc=>Tt.b1 ?_;{have:=o.2 (h.b _ i);grind};rw[wI U U];refine f (l.length-(k+1)) _ U ⟨k+1,U,rfl,rfl,λx t=>?_⟩;rw[wcp a]at t;grind};.have e:k=l.length:=X;rw[e,wc8]at j;exact Waj (z88 l p) waa.fst λr q=>Tt.pure (q.trans ⟨λh=>⟨h,j⟩,λh=>h.r⟩)
structure z8z(n:jl):Prop extends NetOk n where
 p:∀o∈n.2.1,0<=o
def zmr(n:jl){N:Nat}(D:N<=1000)(hz:zkx N 60000 n):Tn (λB=>Yf B n) (λb=>b=true↔z8z n):=by
 have L:=hz.s;have M:=hz.o;have O:=hz.l;have P:=hz.f;have Q:=hz.fi;unfold Yf;refine Tt.b1 (Tt.J (λs=>∃b,s=((n.1.length:Int),b,n)/\(b=false↔n.2.1.length=n.1.length/\n.2.2.1.length=n.1.length/\n.2.2.2.1.length=n.1.length)) (λC a=>?_) λs⟨b,j,t⟩=>?_);{refine Tt.b1 (wab (λc=>a _ ⟨_,rfl,λh=>(by cases h),λh=>?_⟩) λc=>wab (λw=>a _ ⟨_,rfl,λh=>(by cases h),λh=>?_⟩) λw=>a _ ⟨_,rfl,?_⟩);{grind};{grind};grind}
 .subst j;dsimp only;refine wab (λc=>Tt.pure ⟨λh=>(by cases h),λh=>?_⟩) λc=>?_;{have:=t.2 ⟨h.o,h.l,h.f⟩;rw[c]at this;cases this};obtain⟨y,z,A⟩:=t.1 c;refine Tt.loop (λm s=>∃k,k<=n.2.1.length/\m=n.2.1.length-k/\s=((n.1.length:Int),n.2.1,(n.2.1.length:Int),(k:Int),n)/\∀o∈n.2.1.take k,0<=o) n.2.1.length waa ⟨0,U,Wab,rfl,V⟩ λm s⟨k,F,G,j,u⟩ C a=>?_;subst j;dsimp only;refine wad (λc=>?_) (λc=>?_);{have d:k<n.2.1.length:=U;refine Tt.at d (wad (λc=>Tt.pure ⟨λh=>X,λh=>?_⟩) λc=>Tt.b1 ?_);{have:=h.p _ (wcm d);omega};rw[wI U U];refine a (n.2.1.length-(k+1)) _ U ⟨k+1,U,rfl,rfl,λx e=>?_⟩;rw[wcp d]at e;grind}
  .have q:k=n.2.1.length:=X;rw[q,wc8]at u;refine Tt.J (λb=>b=true↔z8z n) (λH g=>?_) λs j=>Tt.pure j;refine Waj (z3w n.1.length [n.2.2.2.2.1] V (λx e=>X)) waa.fst λr v=>(wab (λc=>?_) λc=>g _ ⟨λh=>X,λh=>?_⟩)
   {refine Waj (z3w n.1.length n.2.2.2.1 U (λx e=>by have:=hz.fr x e;omega)) waa.fst λI i=>?_;exact g _ ⟨λh=>⟨⟨y,z,A,v.1 c _ V,i.1 h⟩,u⟩,λh=>i.2 h.fo⟩};.have:=v.2 λx e=>by{rw[wcr.1 e];exact h.fi};grind
def zb3(n:jl){N:Nat}(L:N<=1000)(hz:zkx N 60000 n):Tn (λG=>Vl G n) (λb=>b=true↔z8z n):=by have Q:=hz.s;have R:=hz.o;have S:=hz.l;have T:=hz.f;have Y:=hz.fi;unfold Vl;refine Tt.J (λs=>∃b,s=(b,n)/\(b=false↔n.2.1.length=n.1.length/\n.2.2.1.length=n.1.length/\n.2.2.2.1.length=n.1.length/\RN n.1.length n.2.2.2.2.1)) (λH a=>?_) λs⟨b,j,g⟩=>?_;{refine Tt.b1 (wad (λc=>a _ ⟨_,rfl,λh=>(by cases h),λh=>?_⟩) λc=>wab (λq=>a _ ⟨_,rfl,λh=>(by cases h),λh=>?_⟩) λq=>wad (λw=>a _ ⟨_,rfl,λh=>(by cases h),λh=>?_⟩) λw=>?_);{grind};{grind};{grind};.have q:=wck q;refine Waj (zuh n U _ U) waa λr F=>a _ ⟨_,rfl,?_⟩;grind};.subst j;dsimp only;refine wab (λc=>Tt.pure ⟨λh=>X,λh=>?_⟩) λc=>?_;{have:=g.2 ⟨h.o,h.l,h.f,h.fi⟩;grind};obtain⟨y,z,A,B⟩:=g.1 c;refine Tt.loop (λm s=>∃k,k<=n.1.length/\m=n.1.length-k/\s=((k:Int),n)/\(∀o∈n.2.1.take k,0<=o)/\∀x∈n.2.2.2.1.take k,RN n.1.length x) n.1.length waa ⟨0,U,U,rfl,V,V⟩ λm s⟨k,M,O,j,u,v⟩ H a=>?_;subst j;dsimp only;refine wad (λc=>?_) (λc=>?_);{have D:k<n.1.length:=U;have e:k<n.2.1.length:=U;have d:k<n.2.2.2.1.length:=U;refine Tt.J (λs=>∃b,s=((k:Int),b,n)/\(b=false↔0<=n.2.1[k]/\RN n.1.length n.2.2.2.1[k])) (λP i=>?_) λs⟨b,j,g⟩=>?_;{refine Tt.at e (Tt.b1 (wad (λc=>i _ ⟨_,rfl,λh=>X,λh=>?_⟩) λc=>?_));{grind};.refine Tt.at d (Waj (zuh n U _ (by have:=hz.fr _ (wcm d);omega)) waa.fst λr F=>i _ ⟨_,rfl,?_⟩);grind};.subst j;dsimp only;refine wab (λc=>Tt.pure ⟨λh=>X,λh=>?_⟩) λc=>Tt.b1 ?_;{have:=g.2 ⟨h.p _ (wcm e),h.fo _ (wcm d)⟩;grind};obtain⟨b1,I⟩:=g.1 c;rw[wI U U];refine a (n.1.length-(k+1)) _ U ⟨k+1,U,rfl,rfl,λx t=>?_,λx t=>?_⟩;{rw[wcp e]at t;grind};.rw[wcp d]at t;grind};.have C:k=n.1.length:=X;rw[show k=n.2.1.length by omega,wc8]at u;rw[show k=n.2.2.2.1.length by omega,wc8]at v;exact Tt.pure ⟨λ_=>⟨⟨y,z,A,B,v⟩,u⟩,λ_=>rfl⟩
open Classical in
def zgq(n:jl)(b:Nat):Wa:=if z8z n then n.2.2.2.2.1.filter (hsB n b)else []
def jpp(n:jl){N:Nat}(d:N<=1000)(hz:zkx N 60000 n)(b:Nat)(e:b<256):Tn (λf=>zci f n (b:Int)) (λr=>r=zgq n b):=by
 have g:=hz.s;unfold zci;refine Waj (zmr n d hz) waa λr a=>(wab (λc=>Tt.pure ?_) λc=>?_)
 {have c:r=false:=X;unfold zgq;grind};.have h:=a.1 X;refine Waj (z4o n U _ h.fi b e) waa λr a=>Tt.pure ?_;unfold zgq;grind
def jab(n:jl){N:Nat}(e:N<=1000)(hz:zkx N 60000 n)(g:∀s∈n.1,zfl s)(b:Nat)(f:b<256):Tn (λi=>za5 i n (b:Int)) (λr=>r=zgq n b):=by
 have j:=hz.s;have k:=hz.fi;unfold za5;refine Waj (zb3 n e hz) waa λr d=>(wab (λc=>Tt.pure ?_) λc=>?_)
 {have c:r=false:=X;unfold zgq;grind};.have h:=d.1 X;refine Waj (zzv n U g _ _ U h.fi (λx=>⟨λa=>⟨a,h.fi.b x a⟩,λa=>a.1⟩) b f) waa λr d=>Tt.pure ?_;unfold zgq;grind
open Classical in
def ja3(N:Nat)(p:Int->Prop):Wa:=((range N).map λ(i:Nat)=>(i:Int)).filter λx=>decide (p x)
def zih{N:Nat}{p:Int->Prop}{x:Int}:x∈ja3 N p↔0<=x/\x<(N:Int)/\p x:=by unfold ja3;simp only[wey,wc6,wc9];constructor;{grind};.rintro⟨b,c,a⟩;exact⟨⟨x.toNat,weq.2 U,U⟩,a⟩
def z0r{N:Nat}{p:Int->Prop}:jx (ja3 N p):=by unfold ja3 jx;refine List.Pairwise.filter _ ?_;rw[List.pairwise_map];exact List.pairwise_lt_range.imp λh=>U
def zye(n:jl)(l:Wa)(x:Int):Prop:=∃i∈l,0<=i/\i<(n.1.length:Int)/\x∈n.2.2.2.1.getD i.toNat []
open Classical in
def zle(n:jl)(l:Wa)(b:Nat):Wa:=if z8z n then(ja3 n.1.length (zye n l)).filter (hsB n b)else []
def zm1{n:jl}{l:Wa}{k:Nat}(a:k<l.length){x:Int}:zye n (l.take (k+1)) x↔zye n (l.take k) x\/(0<=l[k]/\l[k]<(n.1.length:Int)/\x∈n.2.2.2.1.getD l[k].toNat []):=by unfold zye;rw[wcp a];grind
def on_ex(n:jl){N:Nat}(Q:N<=1000)(hz:zkx N 60000 n)(q:NetOk n)(l:Wa)(S:l.length<=1000000)(b:Nat)(I:b<256):Tn (λP=>zt9 P n l (b:Int)) (λr=>r=(ja3 n.1.length (zye n l)).filter (hsB n b)):=by
 have z1:=hz.s;have z4:=hz.f;have z5:=q.f;unfold zt9 zt3;refine Tt.loop (λm s=>∃(k:Nat)(j:Wa),k<=l.length/\m=l.length-k/\s=((b:Int),j,l,(l.length:Int),(k:Int),n)/\RN n.1.length j/\∀x,x∈j↔zye n (l.take k) x) l.length waa ⟨0,_,U,Wab,rfl,RN.nil _,λx=>⟨λh=>X,λ⟨i,L,_⟩=>(by cases L)⟩⟩ λm s⟨k,j,R,T,t,g,w⟩ Y F=>?_;subst t;dsimp only;refine wad (λc=>?_) (λc=>Waj (z4o n U _ g b I) waa.fst λr M=>Tt.pure ?_);rotate_left
 {have D:k=l.length:=X;rw[D,wc8]at w;have e:=z8q g.r z0r λx=>by{rw[zih];exact⟨λh=>⟨(g.b x h).1,(g.b x h).2,(w x).1 h⟩,λh=>(w x).2 h.2.2⟩};rw[M,e]};have d:k<l.length:=U;refine Tt.J (λs=>∃a,s=((b:Int),a,l,(l.length:Int),(k:Int),n)/\RN n.1.length a/\∀x,x∈a↔zye n (l.take (k+1)) x) (λZ o=>?_) λs⟨a,t,A,G⟩=>?_
 .refine Tt.at d (Tt.J (λs=>∃y,s=((b:Int),j,l[k],l,(l.length:Int),(k:Int),y,n)/\(y=true↔0<=l[k]/\l[k]<(n.2.2.2.1.length:Int))) (λnz p=>?_) λs⟨y,t,B⟩=>?_);{refine Tt.b1 (wad (λc=>p _ ⟨_,rfl,λh=>⟨c,wcj h⟩,λh=>wdg h.2⟩) λc=>p _ ⟨_,rfl,λh=>X,λh=>absurd h.1 c⟩)}
  .subst t;dsimp only;refine wab (λc=>?_) λc=>o _ ⟨_,rfl,g,λx=>?_⟩
   .obtain⟨h0,H⟩:=B.1 c;obtain⟨z,hz⟩:∃z:Nat,l[k]=(z:Int):=⟨(l[k]).toNat,U⟩
    have C:=λx=>zm1 (n:=n) d (x:=x);rw[hz]at H C⊢;have v:z<n.2.2.2.1.length:=U;refine Tt.at v (Waj (zoh U g (q.fo _ (wcm v))) waa.fst λu O=>?_);refine o _ ⟨_,rfl,O.1,λx=>?_⟩;grind
   .rw[w,zm1 d];grind
 .subst t;refine Tt.b1 ?_;dsimp only;rw[wI U U];exact F (l.length-(k+1)) _ U ⟨k+1,_,U,rfl,rfl,A,G⟩
def jtc(n:jl){N:Nat}(a:N<=1000)(hz:zkx N 60000 n)(l:Wa)(f:l.length<=1000000)(b:Nat)(e:b<256):Tn (λg=>zeu g n l (b:Int)) (λr=>r=zle n l b):=by
 unfold zeu;refine Waj (zmr n a hz) waa λr d=>(wab (λc=>Tt.pure ?_) λc=>?_)
 {have c:r=false:=X;unfold zle;grind};.have h:=d.1 X;refine Waj (on_ex n a hz h.toNetOk l f b e) waa λr d=>Tt.pure ?_;unfold zle;grind
def jfi(n:jl){N:Nat}(I:N<=1000)(hz:zkx N 60000 n)(P:∀s∈n.1,zfl s)(l:Wa)(T:l.length<=1000)(b:Nat)(L:b<256):Tn (λQ=>zcx Q n l (b:Int)) (λr=>r=zle n l b):=by
 have z1:=hz.s;have z4:=hz.f;unfold zcx;refine Waj (zb3 n I hz) waa λr q=>(wab (λc=>Tt.pure ?_) λc=>?_)
 {have c:r=false:=by{simpa using c};unfold zle;rw[if_neg λh=>by rw[q.2 h]at c;cases c]};have G:=q.1 (by simpa using c);have z5:=G.f;refine Tt.loop (λm s=>∃(k:Nat)(g:Wa),k<=l.length/\m=l.length-k/\s=(l,(b:Int),(k:Int),n,g)/\g.length<=512*k/\∀x,x∈g↔zye n (l.take k) x) l.length waa ⟨0,_,U,U,rfl,V,λx=>⟨λh=>(by cases h),λ⟨i,M,_⟩=>(by cases M)⟩⟩ λm s⟨k,g,S,Y,d,R,C⟩ Z B=>?_;subst d;dsimp only;refine wad (λc=>?_) (λc=>?_);rotate_left
 .have A:k=l.length:=X;rw[A,wc8]at C;have u:RN n.1.length (ja3 n.1.length (zye n l)):=⟨z0r,λx h=>⟨(zih.1 h).1,(zih.1 h).2.1⟩⟩
  refine Waj (zzv n U P _ g U u (λx=>?_) b L) waa.fst λr q=>Tt.pure ?_;{rw[zih,C];exact⟨λh=>⟨h.2.2,h.1,h.2.1⟩,λh=>⟨h.2.1,h.2.2,h.1⟩⟩};.unfold zle;rw[if_pos G,q]
 have a:k<l.length:=U;refine Tt.J (λs=>∃e,s=(l,(b:Int),(k:Int),n,e)/\e.length<=512*(k+1)/\∀x,x∈e↔zye n (l.take (k+1)) x) (λny j=>?_) λs⟨e,d,v,D⟩=>?_
 .refine Tt.J (λs=>∃t,s=(l,(b:Int),(k:Int),t,n,g)/\(t=true↔0<=l[k]/\l[k]<(n.1.length:Int))) (λnz o=>?_) λs⟨t,d,w⟩=>?_;{refine Tt.at a (Tt.b1 (wad (λc=>Tt.at a (o _ ⟨_,rfl,λh=>⟨c,wcj h⟩,λh=>wdg h.2⟩)) λc=>o _ ⟨_,rfl,λh=>X,λh=>absurd h.1 c⟩))}
  .subst d;dsimp only;refine wab (λc=>?_) λc=>j _ ⟨_,rfl,U,λx=>?_⟩
   .obtain⟨h0,H⟩:=w.1 c;refine Tt.at a ?_;obtain⟨z,F⟩:∃z:Nat,l[k]=(z:Int):=⟨(l[k]).toNat,U⟩
    have y:=λx=>zm1 (n:=n) a (x:=x);rw[F]at H y⊢;have p:z<n.2.2.2.1.length:=U;have O:=hz.fr _ (wcm p);refine Tt.at p (wac _ (yp U U) (j _ ⟨_,rfl,X,λx=>?_⟩));grind
   .rw[C,zm1 a];grind
 .subst d;refine Tt.b1 ?_;dsimp only;rw[wI U U];exact B (l.length-(k+1)) _ U ⟨k+1,_,U,rfl,rfl,v,D⟩
def zg8(n:jl)(t i:Int):Int:=if 0<=i/\i<(n.1.length:Int)/\n.2.2.1.getD i.toNat false=true then(if t<0 then n.2.1.getD i.toNat 0 else min t (n.2.1.getD i.toNat 0))else t
open Classical in
def zp2(n:jl)(l:Wa):Int:=if z8z n then l.foldl (zg8 n) (-1)else -1
def z4y{n:jl}{l:Wa}{k:Nat}(a:k<l.length):(l.take (k+1)).foldl (zg8 n) (-1)=zg8 n ((l.take k).foldl (zg8 n) (-1)) l[k]:=by rw[wcp a,wd7];rfl
theorem jon(n:jl){N:Nat}(hN:N<=1000)(hz:zkx N 60000 n)(l:List Int)(hl:l.length<=1000000):Tn (λnn=>zfp nn n l) (λr=>r=zp2 n l):=by
 unfold zfp;refine Tt.bind (Tt.call (zmr n hN hz) waa) λr hr=>(wab (λc=>Tt.pure ?_) λc=>?_)
 ·have c:r=false:=by simpa using c
  unfold zp2;rw[if_neg λh=>by rw[hr.2 h]at c;cases c]
 have hok:=hr.1 (by grind);have e1:=hok.o;have e2:=hok.l;unfold zp2;rw[if_pos hok];refine Tt.loop (λm s=>∃k t,k<=l.length/\m=l.length-k/\s=(t,l,(l.length:Int),(k:Int),n)/\t=(l.take k).foldl (zg8 n) (-1)) l.length waa ⟨0,_,by omega,by rfl,rfl,rfl⟩ λm s⟨k,t,hk,hm,hs,ht⟩ nx hnx=>?_;subst hs;dsimp only;refine wad (λc=>?_) (λc=>Tt.pure ?_)
 rotate_left
 ·grind
 have hlt:k<l.length:=by omega
 have hstep:=z4y (n:=n) hlt;rw[<- ht]at hstep;refine Tt.J (λs=>s=(zg8 n t l[k],l,(l.length:Int),(k:Int),n)) (λny hny=>?_) λs hs=>?_
 ·refine Tt.at hlt (Tt.J (λs=>∃bb,s=(t,l[k],l,(l.length:Int),(k:Int),bb,n)/\(bb=false↔0<=l[k]/\l[k]<(n.1.length:Int)/\n.2.2.1.getD l[k].toNat false=true)) (λnz hnz=>?_) λs⟨bb,hs,hbb⟩=>?_)
  ·refine Tt.b1 (wad (λc=>hnz _ ⟨_,rfl,λh=>(by grind),λh=>?_⟩) λc=>wad (λc2=>hnz _ ⟨_,rfl,λh=>(by grind),λh=>?_⟩) λc2=>?_)
   ·grind
   ·grind
   have hr:0<=l[k]/\l[k]<(n.1.length:Int):=by omega
   obtain⟨z,hz⟩:∃z:Nat,l[k]=(z:Int):=⟨(l[k]).toNat,by omega⟩
   have hzl:z<n.2.2.1.length:=by omega
   have ha:atL n.2.2.1 l[k]=some (n.2.2.1[z]'hzl):=by rw[hz];exact atN hzl
   have hg:n.2.2.1.getD l[k].toNat false=n.2.2.1[z]:=by grind
   refine wac _ ha (hnz _ ⟨_,rfl,?_⟩)
   grind
  ·subst hs;dsimp only;refine wab (λc=>hny _ ?_) λc=>?_
   ·have:¬(0<=l[k]/\l[k]<(n.1.length:Int)/\n.2.2.1.getD l[k].toNat false=true):=λh=>by
     grind
    unfold zg8
    grind
   have hr:=hbb.1 c;obtain⟨z,hz⟩:∃z:Nat,l[k]=(z:Int):=⟨(l[k]).toNat,by omega⟩
   have hzl:z<n.2.1.length:=by omega
   have ha:atL n.2.1 l[k]=some (n.2.1[z]'hzl):=by rw[hz];exact atN hzl
   have hg:n.2.1.getD l[k].toNat 0=n.2.1[z]:=by grind
   have hF:zg8 n t l[k]=if t<0 then n.2.1[z]else min t n.2.1[z]:=by unfold zg8;grind
   refine Tt.J (λs=>s=(if t<0 then n.2.1[z]else t,l[k],l,(l.length:Int),(k:Int),n)) (λnz hnz=>?_) λs hs=>?_
   ·refine wab (λc=>wac _ ha (hnz _ ?_)) λc=>hnz _ ?_
    ·grind
    grind
   ·subst hs;refine wac _ ha (Tt.b1 (hny _ ?_))
    grind
 ·subst hs;refine Tt.b1 ?_;dsimp only;rw[wI (by omega) (by omega)];exact hnx (l.length-(k+1)) _ (by omega) ⟨k+1,_,by omega,rfl,rfl,hstep.symm⟩
theorem jbh(n:jl){N:Nat}(hN:N<=1000)(hz:zkx N 60000 n)(l:List Int)(hl:l.length<=1000000):Tn (λnn=>zea nn n l) (λr=>r=zp2 n l):=by
 unfold zea;refine Tt.bind (Tt.call (zb3 n hN hz) waa) λr hr=>(wab (λc=>Tt.pure ?_) λc=>?_)
 ·have c:r=false:=by simpa using c
  unfold zp2;rw[if_neg λh=>by rw[hr.2 h]at c;cases c]
 have hok:=hr.1 (by simpa using c);have e1:=hok.o;have e2:=hok.l;unfold zp2;rw[if_pos hok];refine Tt.loop (λm s=>∃k t,k<=l.length/\m=l.length-k/\s=(l,t,(k:Int),n)/\t=(l.take k).foldl (zg8 n) (-1)) l.length waa ⟨0,_,by omega,by rfl,rfl,rfl⟩ λm s⟨k,t,hk,hm,hs,ht⟩ nx hnx=>?_;subst hs;dsimp only;refine wad (λc=>?_) (λc=>Tt.pure ?_)
 rotate_left
 ·grind
 have hlt:k<l.length:=by omega
 have hstep:=z4y (n:=n) hlt;rw[<- ht]at hstep;refine Tt.J (λs=>s=(l,zg8 n t l[k],(k:Int),n)) (λny hny=>?_) λs hs=>?_
 ·refine Tt.J (λs=>∃bb,s=(l,t,(k:Int),bb,n)/\(bb=true->0<=l[k]/\l[k]<(n.1.length:Int)/\zg8 n t l[k]=n.2.1.getD l[k].toNat 0)/\(bb=false->zg8 n t l[k]=t)) (λnz hnz=>?_) λs⟨bb,hs,hbt,hbf⟩=>?_
  ·have hno:¬(0<=l[k]/\l[k]<(n.1.length:Int)/\n.2.2.1.getD l[k].toNat false=true)->zg8 n t l[k]=t:=λh=>by unfold zg8;grind
   refine Tt.at hlt (Tt.b1 (wad (λc=>?_) λc=>hnz _ ⟨_,rfl,λh=>(by grind),λ_=>hno λh=>absurd h.1 c⟩));refine Tt.at hlt (wad (λc2=>?_) λc2=>hnz _ ⟨_,rfl,λh=>(by grind),λ_=>hno λh=>absurd h.2.1 c2⟩);obtain⟨z,hz⟩:∃z:Nat,l[k]=(z:Int):=⟨(l[k]).toNat,by omega⟩
   have hzl:z<n.2.2.1.length:=by omega
   have hzo:z<n.2.1.length:=by omega
   have ha:atL n.2.2.1 l[k]=some (n.2.2.1[z]'hzl):=by rw[hz];exact atN hzl
   have hao:atL n.2.1 l[k]=some (n.2.1[z]'hzo):=by rw[hz];exact atN hzo
   have hg:n.2.2.1.getD l[k].toNat false=n.2.2.1[z]:=by rw[hz];simp[List.getD,hzl]
   have hgo:n.2.1.getD l[k].toNat 0=n.2.1[z]:=by rw[hz];simp[List.getD,hzo]
   refine Tt.at hlt (wac _ ha (wab (λc3=>?_) λc3=>hnz _ ⟨_,rfl,λh=>(by grind),λ_=>hno λh=>?_⟩))
   ·have hF:zg8 n t l[k]=if t<0 then n.2.1[z]else min t n.2.1[z]:=by unfold zg8;grind
    refine Tt.b1 (wad (λc4=>hnz _ ⟨_,rfl,λ_=>⟨c,c2,by grind⟩,λh=>by grind⟩) λc4=>?_);rw[if_neg c4]at hF;refine Tt.at hlt (wac _ hao (hnz _ ⟨_,rfl,λh=>⟨c,c2,?_⟩,λh=>?_⟩))
    ·grind
    grind
   grind
  ·subst hs;dsimp only;refine wab (λc=>?_) λc=>hny _ (by grind);obtain⟨h1,h2,h3⟩:=hbt c;obtain⟨z,hz⟩:∃z:Nat,l[k]=(z:Int):=⟨(l[k]).toNat,by omega⟩
   have hzo:z<n.2.1.length:=by omega
   have hao:atL n.2.1 l[k]=some (n.2.1[z]'hzo):=by rw[hz];exact atN hzo
   have hgo:n.2.1.getD l[k].toNat 0=n.2.1[z]:=by grind
   exact Tt.at hlt (wac _ hao (hny _ (by grind)))
 ·subst hs;refine Tt.b1 ?_;dsimp only;rw[wI (by omega) (by omega)];exact hnx (l.length-(k+1)) _ (by omega) ⟨k+1,_,by omega,rfl,rfl,hstep.symm⟩
def qu(E:Nat->Nat->Bool):Nat->List Nat
 |0=>[]
 |k+1=>if(qu E k).any (E · k)then qu E k else qu E k++[k]
def cls(E:Nat->Nat->Bool)(b:Nat):Nat:=(qu E 256).findIdx (E · b)
structure Eqv(E:Nat->Nat->Bool):Prop where
 r:∀a,E a a=true
 s:∀a b,E a b=E b a
 t:∀a b c,E a b=true->E a c=E b c
def zim{E:Nat->Nat->Bool}(h:Eqv E):∀{k b:Nat},b<k->∃a∈qu E k,E a b=true
 |0,b,d=>U
 |k+1,b,d=>by unfold qu;by_cases c:b<k;{obtain⟨a,e,f⟩:=zim h c;grind};.have:b=k:=U;subst this;split;{grind};.exact⟨b,V,h.r b⟩
def zzt{E:Nat->Nat->Bool}(k:Nat):∀d,∃t,qu E (k+d)=qu E k++t
 |0=>⟨[],V⟩
 |d+1=>by
  obtain⟨t,a⟩:=zzt (E:=E) k d;have e:qu E (k+(d+1))=if(qu E (k+d)).any (E · (k+d))then qu E (k+d)else qu E (k+d)++[k+d]:=rfl
  grind
def jqd{E:Nat->Nat->Bool}(h:Eqv E){k b:Nat}(d:b<k)(g:k<=256):(qu E k).findIdx (E · b)=cls E b:=by obtain⟨t,c⟩:=zzt k (256-k);rw[show k+(256-k)=256 by omega]at c;unfold cls;rw[c,List.findIdx_append,if_pos];obtain⟨a,e,f⟩:=zim h d;grind
def jhv{E:Nat->Nat->Bool}(h:Eqv E){a b:Nat}(c:E a b=true):cls E a=cls E b:=by unfold cls;have:(λx=>E x a)=λx=>E x b:=funext λx=>by{rw[h.s x a,h.s x b];exact h.t a b x c};grind
def ju4{E:Nat->Nat->Bool}(h:Eqv E){b:Nat}(f:b<256)(i:∀a,a<b->E a b=false):cls E b=(qu E b).length/\(qu E (b+1)).length=(qu E b).length+1:=by have g:∀k a,a∈qu E k->a<k:=by{intro k;induction k with|zero=>{intro a c;cases c}|succ k j=>intro a c;unfold qu at c;grind};have d:(qu E b).any (E · b)=false:=by{grind};have e:qu E (b+1)=qu E b++[b]:=by{show(if(qu E b).any (E · b)then qu E b else qu E b++[b])=_;grind};refine⟨?_,X⟩;rw[<- jqd h (we0 b) U,e,List.findIdx_append];have:(qu E b).findIdx (E · b)=(qu E b).length:=List.findIdx_eq_length.2 λa c=>X;rw[this,if_neg U];simp[h.r b]
def joa{E:Nat->Nat->Bool}(h:Eqv E){a b:Nat}(c:a<b)(e:E a b=true):qu E (b+1)=qu E b:=by obtain⟨x,f,d⟩:=zim h c;have:E x b=true:=by{rw[<- h.t x a b d]at e;omega};show(if(qu E b).any (E · b)then qu E b else qu E b++[b])=_;grind
def Zg(l:W9)(a b:Nat):Bool:=decide (l.map (zk1 · a)=l.map (zk1 · b))
def zii(l:W9):Eqv (Zg l) where
 r a:=by simp[Zg]
 s a b:=decide_eq_decide.2 ⟨Eq.symm,Eq.symm⟩
 t a b c h:=by
  have h:=wcj h;unfold Zg;rw[h]
def ja2(l:W9)(A:l.length<=1000000)(p:∀s∈l,zfl s)(a b:Nat)(n:a<256)(o:b<256):Tn (λu=>zas u l (a:Int) (b:Int)) (λr=>r=Zg l a b):=by unfold zas;refine Tt.loop (λm s=>∃k,k<=l.length/\m=l.length-k/\s=(l,(a:Int),(b:Int),(k:Int))/\Zg l a b=Zg (l.drop k) a b) l.length waa ⟨0,U,Wab,rfl,rfl⟩ λm s⟨k,z,B,i,f⟩ C h=>?_;subst i;dsimp only;refine wad (λc=>?_) (λc=>Tt.pure ?_);{have d:k<l.length:=U;have e:=p _ (wcm d);have v:wr .u8 (a:Int)=(a:Int):=Qv U U;have w:wr .u8 (b:Int)=(b:Int):=Qv U U;rw[v,w];rw[wcw d]at f;refine Tt.at d (Waj (zn8 _ e a n) waa.fst λx q=>Tt.at d (Waj (zn8 _ e b o) waa.fst λy t=>?_));subst q t;have j:Zg (l[k]::l.drop (k+1)) a b=((zk1 l[k] a == zk1 l[k] b) && Zg (l.drop (k+1)) a b):=by{unfold Zg;grind};rw[j]at f;refine wab (λc=>Tt.pure ?_) λc=>Tt.b1 ?_;{grind};.have c:(zk1 l[k] a == zk1 l[k] b)=true:=X;rw[wI U U];exact h (l.length-(k+1)) _ U ⟨k+1,U,rfl,rfl,X⟩};.have g:k=l.length:=X;rw[f,g,wed];rfl
def zeb(E:Nat->Nat->Bool):∀k,(qu E k).length<=k
 |0=>by simp[qu]
 |k+1=>by have h:=zeb E k;unfold qu;grind
structure ClsAt(E:Nat->Nat->Bool)(a:Arr 256 Int)(k:Nat):Prop where
 c:∀b,b<k->a.l[b]?=some (cls E b:Int)
def ClsAt.set{E:Nat->Nat->Bool}{a d:Wd}{k:Nat}(h:ClsAt E a k)(i:k<256){x:Int}(f:d.l=a.l.set k x)(m:x=(cls E k:Int)):ClsAt E d (k+1):=⟨λb g=>by
 have j:=a.h;rw[f,wdl];by_cases e:k=b;{grind};.rw[if_neg e];exact h.c b U⟩
def jpk(l:W9)(I:l.length<=1000000)(P:∀s∈l,zfl s):Tn (λC=>zjq C l) (λr=>r.2.1=((qu (Zg l) 256).length:Int)/\ClsAt (Zg l) r.1 256):=by
 obtain⟨E,u⟩:∃E,Zg l=E:=⟨_,rfl⟩
 have p:=u▸zii l;have v:∀a b:Nat,a<256->b<256->Tn (λC=>zas C l (a:Int) (b:Int)) (λr=>r=E a b):=λa b D F=>u▸ja2 l I P a b D F;rw[u];unfold zjq;refine Tt.loop (λm s=>∃k j,k<=256/\m=256-k/\s=(l,((qu E k).length:Int),(k:Int),⟨replicate 256 0,wci⟩,j)/\ClsAt E j k) 256 waa ⟨0,_,U,Wab,rfl,⟨λb F=>U⟩⟩ λm s⟨k,j,T,Y,i,w⟩ Z z=>?_;subst i;dsimp only;refine wad (λc=>?_) (λc=>Tt.pure ?_);rotate_left
 {grind};have d:k<256:=U;have M:=j.h;have O:=zeb E k;refine Tt.J (λs=>∃f,s=(l,((qu E (k+1)).length:Int),(k:Int),⟨replicate 256 0,wci⟩,f)/\ClsAt E f (k+1)) (λny o=>?_) λs⟨f,i,y⟩=>?_;{refine Tt.loop (λm s=>∃a,a<=k/\m=k-a/\s=(l,((qu E k).length:Int),(k:Int),(a:Int),⟨replicate 256 0,wci⟩,j)/\∀x,x<a->E x k=false) k waa.fst ⟨0,U,Wab,rfl,λx G=>U⟩ λm s⟨a,D,L,i,G⟩ nz A=>?_;subst i;dsimp only;refine Waj (v a k U d) waa.fst.fst λr N=>?_;subst N;refine wab (λn=>Tt.b1 ?_) λn=>?_;{have n:E a k=false:=X;have g:a<k:=by{by_cases e:a=k;{rw[e,p.r]at n;grind};omega};rw[wI U U];refine A (k-(a+1)) _ U ⟨a+1,U,rfl,rfl,λx R=>?_⟩;grind};.have n:E a k=true:=X;refine wab (λH=>?_) λH=>?_;{have g:a<k:=X;have Q:atL j.l (a:Int)=some (cls E a:Int):=by{have S:=w.c a g;assumption};obtain⟨f,q,t⟩:=zxk j d (cls E a:Int);refine waj U (wac _ Q (waj d (wac _ q (o.fst _ ⟨f,?_,w.set d t (by rw[jhv p n])⟩))));rw[joa p g n]};.have g:a=k:=X;subst g;obtain⟨n1,n2⟩:=ju4 p d G;have B:wr .u8 ((qu E a).length:Int)=((qu E a).length:Int):=Qv U U;obtain⟨f,q,t⟩:=zxk j d ((qu E a).length:Int);rw[B];refine waj d (wac _ q (Tt.b1 (o.fst _ ⟨f,?_,w.set d t U⟩)));rw[wI U U,n2];rfl};.subst i;refine Tt.b1 ?_;dsimp only;rw[wI U U];exact z (256-(k+1)) _ U ⟨k+1,f,U,rfl,rfl,y⟩
def nandP(m r:Nat):m &&& 2 ^ r=if m.testBit r=true then 2 ^ r else 0:=by apply Nat.eq_of_testBit_eq;grind
def andP(m r:Nat)(hm:m<18446744073709551616)(d:r<64):andI .u64 (m:Int) ((2 ^ r:Nat):Int)=((if m.testBit r=true then 2 ^ r else 0:Nat):Int):=by have b:2 ^ r<18446744073709551616:=wep (Nat.pow_lt_pow_right V d) V;have a:(BitVec.ofInt IntKind.u64.bits (m:Int) &&& BitVec.ofInt IntKind.u64.bits ((2 ^ r:Nat):Int)).toNat=if m.testBit r=true then 2 ^ r else 0:=by{show(BitVec.ofInt 64 (m:Int) &&& BitVec.ofInt 64 ((2 ^ r:Nat):Int)).toNat=_;rw[BitVec.ofInt_natCast,BitVec.ofInt_natCast,BitVec.toNat_and,BitVec.toNat_ofNat,BitVec.toNat_ofNat,Nat.mod_eq_of_lt hm,Nat.mod_eq_of_lt b,nandP]};have c:(if m.testBit r=true then 2 ^ r else 0)<18446744073709551616:=by{grind};unfold andI;rw[a];generalize (if m.testBit r=true then 2 ^ r else 0)=q at c;exact ze5 U U
theorem jul(s:Arr 4 Int)(d:zfl s)(b:Nat)(h:b<256):Tn (λi=>zdn i s (b:Int)) (λr=>r=zk1 s b):=by
 unfold zdn;obtain⟨w,f⟩:∃w:Nat,s.l.getD (b / 64) 0=(w:Int):=⟨(s.l.getD (b / 64) 0).toNat,by have:=(d (b / 64)).1;omega⟩
 have a:w<18446744073709551616:=by have:=(d (b / 64)).2;omega
 have c:b % 64<64:=Nat.mod_lt _ (by simp);have g:2 ^ (b % 64)<18446744073709551616:=wep (Nat.pow_lt_pow_right (by simp) c) (by simp);have j:jca .u64 1 ((b % 64:Nat):Int)=some ((2 ^ (b % 64):Nat):Int):=by
  unfold jca;rw[if_neg (by omega),wcy,show min (b % 64) IntKind.u64.bits=b % 64 from Nat.min_eq_left (by show b % 64<=64;omega)];rw[Int.one_mul,show((2:Int) ^ (b % 64))=((2 ^ (b % 64):Nat):Int) by simp];generalize 2 ^ (b % 64)=q at g;rw[ze5 (by omega) (by omega)]
 refine wac _ (jsd h) (waj (by omega) (wac _ (at4E s (by omega)) (wac _ (jiy b) (wac _ j (Tt.pure ?_)))));rw[f,andP w _ a c];unfold zk1 zyn;rw[f,wcy,show min (b % 64) 64=b % 64 from Nat.min_eq_left (by omega)];have e:((w:Int)).fdiv (2 ^ (b % 64))=((w / 2 ^ (b % 64):Nat):Int):=by
  grind
 rw[e,and1]
 grind
def zyv{E:Nat->Nat->Bool}(h:Eqv E){k:Nat}(d:k<256):((qu E k).any (E · k)=true->qu E (k+1)=qu E k/\cls E k=(qu E k).findIdx (E · k))/\((qu E k).any (E · k)=false->qu E (k+1)=qu E k++[k]/\cls E k=(qu E k).length):=by
 have e:qu E (k+1)=if(qu E k).any (E · k)then qu E k else qu E k++[k]:=rfl
 have c:=jqd h (we0 k) (by omega:k+1<=256);constructor;{grind};.intro b;rw[if_neg X]at e;rw[e,List.findIdx_append]at c;have:(qu E k).findIdx (E · k)=(qu E k).length:=List.findIdx_eq_length.2 λa f=>X;rw[this,if_neg U]at c;simp[h.r k]at c;grind
def jtu{E:Nat->Nat->Bool}(h:Eqv E){a b:Nat}(j:a<256)(k:b<256)(e:cls E a=cls E b):E a b=true:=by have c:(qu E 256).findIdx (E · a)<(qu E 256).length:=by{obtain⟨x,g,i⟩:=zim h j;grind};have d:(qu E 256).findIdx (E · b)<(qu E 256).length:=by{obtain⟨x,g,i⟩:=zim h k;grind};have f:=List.findIdx_getElem (w:=c);have l:=List.findIdx_getElem (w:=d);unfold cls at e;simp[e]at f;rw[h.t _ a b f]at l;omega
def zod(key:Nat->ye):List Nat->Nat->List (ye×Int×Unit)
 |[],_=>[]
 |r::L,i=>(key r,(i:Int),())::zod key L (i+1)
theorem z98(key:Nat->ye)(k:Nat):∀L i,zod key (L++[k]) i=zod key L i++[(key k,((i+L.length:Nat):Int),())]
 |[],i=>by simp[zod]
 |r::L,i=>by
  rw[wdw];show(key r,(i:Int),())::zod key (L++[k]) (i+1)=_;rw[z98 key k L (i+1),wdq,show i+1+L.length=i+(L.length+1) by omega];rfl
def z91(key:Nat->ye):∀L i,(zod key L i).length=L.length
 |[],_=>rfl
 |r::L,i=>by show(zod key L (i+1)).length+1=L.length+1;rw[z91 key L (i+1)]
def jc0{key:Nat->ye}{P:Nat->Bool}{k:Nat}:∀{L:Wam Nat}{i:Nat},(∀r∈L,Vi (key k) (key r)=P r)->zl Vi (zod key L i) (key k)=if L.any P then some ((i+L.findIdx P:Nat):Int)else none
 |[],i,_=>rfl
 |r::L,i,h=>by have a:=h r V;have b:=jc0 (L:=L) (i:=i+1) λx c=>h x X;show zl Vi ((key r,(i:Int),())::zod key L (i+1)) (key k)=_;unfold zl;grind
def zwf(E:Nat->Nat->Bool)(s:We)(a b:Nat):Bool:=E a b && (zk1 s a == zk1 s b)
def jrq{E:Nat->Nat->Bool}(h:Eqv E)(s:We):Eqv (zwf E s) where
 r a:=by simp[zwf,h.r]
 s a b:=by unfold zwf;rw[h.s a b,Bool.beq_comm]
 t a b c he:=by
  unfold zwf at he⊢;rw[wco,beq_iff_eq]at he;rw[h.t a b c he.1,he.2]
def zl3(E:Nat->Nat->Bool)(s:We)(b:Nat):ye:=((cls E b:Int),zk1 s b,())
def kq_iff{x y:ye}:Vi x y=true↔x=y:=by obtain⟨a,b,c⟩:=x;obtain⟨d,e,f⟩:=y;simp[Vi,z0b]
def ju9{E:Nat->Nat->Bool}(h:Eqv E){s:We}{k r:Nat}(c:k<256)(d:r<256):Vi (zl3 E s k) (zl3 E s r)=zwf E s r k:=by rw[Bool.eq_iff_iff,kq_iff];unfold zwf zl3;rw[wco,beq_iff_eq];constructor;{intro e;have b:=congrArg (·.1) e;have a:=congrArg (·.2.1) e;exact⟨jtu h d c U,a.symm⟩};.rintro⟨b,a⟩;rw[jhv h b,a]
def zxb{E:Nat->Nat->Bool}:∀{k a:Nat},a∈qu E k->a<k
 |0,a,b=>by cases b
 |k+1,a,b=>by unfold qu at b;split at b;{have:=zxb b;omega};.rcases wcu.1 b with c|c;{have:=zxb c;omega};grind
def jag{E:Nat->Nat->Bool}(h:Eqv E)(a:Wd)(Q:ClsAt E a 256)(s:We)(Y:zfl s):Tn (λnn=>Yg nn a s) (λr=>ClsAt (zwf E s) r 256):=by
 obtain⟨F,z⟩:∃F,zwf E s=F:=⟨_,rfl⟩
 have S:=z▸jrq h s;have C:∀k r,k<256->r<256->Vi (zl3 E s k) (zl3 E s r)=F r k:=λk r M x=>z▸ju9 h M x;rw[z];unfold Yg;refine Tt.loop (λj t=>∃k e,k<=256/\j=256-k/\t=((k:Int),e,s,⟨replicate 256 0,wci⟩,zod (zl3 E s) (qu F k) 0)/\ClsAt F e k/\∀b,k<=b->b<256->e.l[b]?=some (cls E b:Int)) 256 waa ⟨0,a,U,Wab,rfl,⟨λb A=>U⟩,λb _ A=>Q.c b A⟩ λj t⟨k,e,M,hj,H,R,x⟩ nx D=>?_;subst H;dsimp only;refine wad (λc=>?_) (λc=>Tt.pure ?_);rotate_left
 {grind};have d:k<256:=U;have O:=e.h;have q:k<e.l.length:=U;have L:wr .u8 (k:Int)=(k:Int):=Qv U U;have Z:e.l[k]=(cls E k:Int):=by{have:=x k (wcs _) d;rw[wch q]at this;exact wd4 this};refine waj d (Tt.at q ?_);rw[L,Z];refine Waj (jul s Y k d) waa.fst λr G=>?_;subst G;obtain⟨m,u⟩:∃m,zod (zl3 E s) (qu F k) 0=m:=⟨_,rfl⟩
 have v:m.length=(qu F k).length:=by{rw[<- u,z91]};have T:=zeb F k;have o:zl Vi m (zl3 E s k)=if(qu F k).any (F · k)then some ((0+(qu F k).findIdx (F · k):Nat):Int)else none:=by{rw[<- u];exact jc0 λr x=>C k r d (by have:=zxb x;omega)};obtain⟨s1,s2⟩:=zyv S d;rw[u];refine Tt.J (λt=>t=((k:Int),(k:Int),e,s,⟨replicate 256 0,wci⟩,zod (zl3 E s) (qu F (k+1)) 0,zl3 E s k)/\zl Vi (zod (zl3 E s) (qu F (k+1)) 0) (zl3 E s k)=some (cls F k:Int)) (λny w=>?_) λt⟨H,B⟩=>?_;{refine Tt.b1 ?_;show Tt _ (λi=>ifB (!(zl Vi m (zl3 E s k)).isSome) _ _) _;cases y:(qu F k).any (F · k)with|true=>{obtain⟨g,n⟩:=s1 y;rw[y,if_pos rfl,wd0,<- n]at o;rw[o];refine wae rfl (w _ ⟨?_,?_⟩);{rw[g,u];rfl};grind}|false=>obtain⟨g,n⟩:=s2 y;rw[y,if_neg V]at o;have f:Yr Vi m (zl3 E s k) (wr .u8 (m.length:Int))=zod (zl3 E s) (qu F (k+1)) 0:=by{have I:wr .u8 (m.length:Int)=(m.length:Int):=Qv U U;rw[I,zj3 o,g,z98,u,wd0,v]};have p:zl Vi (zod (zl3 E s) (qu F (k+1)) 0) (zl3 E s k)=some (cls F k:Int):=by{have I:wr .u8 (m.length:Int)=(m.length:Int):=Qv U U;rw[<- f,zm2 (jiv _),I,v,n]};rw[o];refine wah rfl (Tt.b1 (Tt.b1 (w _ ⟨?_,p⟩)));rw[<- f];rfl};.subst H;dsimp only;rw[B];obtain⟨N,g,n⟩:=zxk e d (cls F k:Int);refine Tt.b1 (waj d (wac _ g (wai ?_)));refine D (256-(k+1)) _ U ⟨k+1,N,U,rfl,rfl,R.set d n rfl,λb A P=>?_⟩;grind
def z0d{E:Nat->Nat->Bool}(h:Eqv E):∀{k:Nat},k<=256->∀{j r:Nat},(qu E k)[j]?=some r->cls E r=j
 |0,_,j,r,a=>by trivial
 |k+1,i,j,r,a=>by obtain⟨e,f⟩:=zyv h (show k<256 by omega);cases b:(qu E k).any (E · k)with|true=>{rw[(e b).1]at a;exact z0d h U a}|false=>obtain⟨c,g⟩:=f b;rw[c]at a;by_cases d:j<(qu E k).length;{rw[wcx d]at a;exact z0d h U a};grind
def jgc{E:Nat->Nat->Bool}(h:Eqv E){b:Nat}(d:b<256):cls E b<(qu E 256).length:=by obtain⟨x,a,c⟩:=zim h d;exact List.findIdx_lt_length_of_exists ⟨x,a,c⟩
def zqg{E:Nat->Nat->Bool}(h:Eqv E){a:Wd}(e:ClsAt E a 256):ClsN a (qu E 256).length:=by have i:=a.h;refine⟨by have:=jgc h (show 0<256 by omega);omega,zeb E 256,λb x g=>?_,λj f=>?_⟩;{have d:b<256:=X;rw[e.c b d]at g;exact⟨cls E b,jgc h d,(wd4 g).symm⟩};.have k:=wch f;refine⟨(qu E 256)[j],?_⟩;rw[e.c _ (zxb (wcm f)),z0d h (wcs _) k]
def ju6(b:Nat):cls (Zg []) b=0:=by have h:qu (Zg []) 256=0::(qu (Zg []) 256).tail:=by{obtain⟨t,c⟩:=zzt (E:=Zg []) 1 255;have a:qu (Zg []) 1=[0]:=Wab;grind};unfold cls;rw[h,List.findIdx_cons];rfl
def jkw{l:W9}{k:Nat}(c:k<l.length):zwf (Zg (l.take k)) l[k]=Zg (l.take (k+1)):=by funext a b;unfold zwf Zg;rw[wcp c,Bool.eq_iff_iff];simp only[wdb,wc7,wea,wco,wc9,beq_iff_eq];simp
def kOf_ex(l:W9)(x:l.length<=1000000)(i:∀s∈l,zfl s):Tn (λo=>zm3 o l) (λr=>r.2.1=((qu (Zg l) 256).length:Int)/\ClsAt (Zg l) r.1 256):=by unfold zm3;refine Tt.loop (λj t=>∃k a,k<=l.length/\j=l.length-k/\t=(l,(l.length:Int),(k:Int),⟨replicate 256 0,wci⟩,a)/\ClsAt (Zg (l.take k)) a 256) l.length waa ⟨0,_,U,Wab,rfl,⟨λb q=>?_⟩⟩ λj t⟨k,a,v,u,m,e⟩ y g=>?_;{rw[List.take_zero,ju6];grind};subst m;dsimp only;refine wad (λc=>?_) (λc=>?_);{have d:k<l.length:=U;refine Tt.at d (Waj (jag (zii _) a e _ (i _ (wcm d))) waa.fst λp h=>wai ?_);rw[jkw d]at h;exact g (l.length-(k+1)) _ U ⟨k+1,_,U,rfl,rfl,h⟩};.have f:k=l.length:=X;rw[f,wc8]at e;exact Waj (z36 a (zqg (zii l) e)) waa.fst λw n=>Tt.pure ⟨n,e⟩
def Of_one{E:Nat->Nat->Bool}{n:Int}{x y:Wd×Int×Unit}(h:x.2.1=n/\ClsAt E x.1 256)(j:y.2.1=n/\ClsAt E y.1 256):x=y:=by obtain⟨⟨a,k⟩,w,u⟩:=x;obtain⟨⟨b,l⟩,v,m⟩:=y;obtain⟨rfl,f⟩:=h;obtain⟨d,g⟩:=j;dsimp only at d;subst d;have:a=b:=by{apply wd1;intro i;by_cases e:i<256;{exact(f.c i e).trans (g.c i e).symm};.rw[wek U,wek U]};subst this;rfl
def Qh(a:W7)(x:Wa):Int×W7:=if x=[]then(-1,a)else if zes a x 0<0 then((a.length:Int),a++[x])else(zes a x 0,a)
def zl5(a:W7)(x:Wa):a.length<=(Qh a x).2.length/\(Qh a x).2.length<=a.length+1:=by unfold Qh;grind
def zvs(sp:Nat->Wa):List Nat->W7->Wa->W7×Wa
 |[],a,row=>(a,row)
 |c::cs,a,row=>zvs sp cs (Qh a (sp c)).2 (row++[(Qh a (sp c)).1])
def znb(sp:Nat->Wa)(a:Int):List Nat->W7->Wa->Option (W7×Wa)
 |[],b,row=>some (b,row)
 |c::cs,b,row=>if a<((Qh b (sp c)).2.length:Int)then none else znb sp a cs (Qh b (sp c)).2 (row++[(Qh b (sp c)).1])
def zqz(sp:Nat->Wa):∀cs(a:W7)(row:Wa),a.length<=(zvs sp cs a row).1.length
 |[],_,_=>wcs _
 |c::cs,a,row=>wdt (zl5 a (sp c)).1 (zqz sp cs _ _)
def z68(sp:Nat->Wa)(a:Int):∀cs(b:W7)(row:Wa),(b.length:Int)<=a->znb sp a cs b row=if((zvs sp cs b row).1.length:Int)<=a then some (zvs sp cs b row)else none
 |[],b,row,h=>by
  show some (b,row)=if(b.length:Int)<=a then some (b,row)else none
  grind
 |c::cs,b,row,h=>by
  have e:=zqz sp cs (Qh b (sp c)).2 (row++[(Qh b (sp c)).1]);show(if a<((Qh b (sp c)).2.length:Int)then none else znb sp a cs (Qh b (sp c)).2 (row++[(Qh b (sp c)).1]))=if((zvs sp cs (Qh b (sp c)).2 (row++[(Qh b (sp c)).1])).1.length:Int)<=a then some (zvs sp cs (Qh b (sp c)).2 (row++[(Qh b (sp c)).1]))else none
  by_cases d:a<((Qh b (sp c)).2.length:Int);{grind};.rw[if_neg d];exact z68 sp a cs _ _ U
def zkz(start:Nat->Wa)(step:Wa->Nat->Wa)(a:W7)(at':Nat)(c:Nat):Wa:=if at'=0 then start c else step (a.getD at' []) c
def jmi(start:Nat->Wa)(step:Wa->Nat->Wa)(tok:Wa->Int)(W:Nat)(b:Int):Nat->Nat->W7->W7->Wa->Option (Option (W7×W7×Wa))
 |0,_,_,_,_=>none
 |f+1,i,c,rows,a=>if i<c.length then
   match znb (zkz start step c i) b (range W) c []with
   |none=>some none
   |some (d,row)=>jmi start step tok W b f (i+1) d (rows++[row]) (a++[tok (c.getD i [])])
  else some (some (c,rows,a))
def z0c{start:Nat->Wa}{step:Wa->Nat->Wa}{tok:Wa->Int}{W:Nat}{a:Int}:∀{f i:Nat}{b rows:W7}{c:Wa}{r:W7×W7×Wa},(b.length:Int)<=a->jmi start step tok W a f i b rows c=some (some r)->b.length<=r.1.length/\(r.1.length:Int)<=a
 |0,_,_,_,_,_,_,h=>by cases h
 |f+1,i,b,rows,c,r,g,h=>by unfold jmi at h;by_cases e:i<b.length;{rw[if_pos e,z68 _ _ _ _ _ g]at h;have l:=zqz (zkz start step b i) (range W) b [];by_cases d:((zvs (zkz start step b i) (range W) b []).1.length:Int)<=a;{rw[if_pos d]at h;obtain⟨j,k⟩:=z0c d h;omega};grind};grind
def fb_ex(a:Wd){n:Nat}(h:ClsN a n)(c:Nat)(g:c<n):∃b:Nat,b<256/\Tn (λi=>Ve i a (c:Int)) (λr=>atL r 0=some (b:Int)):=by obtain⟨r,⟨N,d⟩,b,e,f⟩:=jka a h c g;exact⟨b,e,r,⟨N,d⟩,f⟩
open Classical in
def zoo(a:Wd)(c:Nat):Nat:=if h:∃b:Nat,b<256/\Tn (λd=>Ve d a (c:Int)) (λr=>atL r 0=some (b:Int))then h.choose else 0
def zxa(a:Wd)(c:Nat):zoo a c<256:=by unfold zoo;split;{omega};simp
def jiu(a:Wd){n:Nat}(h:ClsN a n)(c:Nat)(d:c<n):Tn (λe=>Ve e a (c:Int)) (λr=>atL r 0=some (zoo a c:Int)):=by have b:=fb_ex a h c d;unfold zoo;rw[dif_pos b];grind
def jgy(a:Wd){n:Nat}(h:ClsN a n)(c:Nat)(b:c<n):Tn (λd=>zed d a (c:Int)) (λr=>atL r 0=some (zoo a c:Int)):=jiu a h c b
def spN(n:jl)(a:Wd)(b:W7)(i c:Nat):Wa:=zkz (λc=>zgq n (zoo a c)) (λl c=>zle n l (zoo a c)) b i c
def z3s(n:jl)(b:Nat):RN n.1.length (zgq n b):=by unfold zgq;split;{rename_i h;exact h.fi.sub List.filter_sublist};.exact RN.nil _
def jcc(n:jl)(l:Wa)(b:Nat):RN n.1.length (zle n l b):=by
 unfold zle;split
 .have a:RN n.1.length (ja3 n.1.length (zye n l)):=⟨z0r,λx h=>⟨(zih.1 h).1,(zih.1 h).2.1⟩⟩
  exact a.sub List.filter_sublist
 .exact RN.nil _
def jno(n:jl)(a:Wd)(b:W7)(i c:Nat):RN n.1.length (spN n a b i c):=by unfold spN zkz;split;{exact z3s _ _};.exact jcc _ _ _
def jof(a:Wd)(W:Int):Option (Option (W7×W7×Wa))->jd×Int×Int×Unit
 |some (some (c,rows,b))=>((a,W,rows,b,()),(c.length:Int),0,())
 |_=>((⟨replicate 256 0,wci⟩,0,[],[],()),0,16,())
def zo2(n:jl)(a:Wd)(W:Nat)(z:Int):=jmi (λc=>zgq n (zoo a c)) (λl c=>zle n l (zoo a c)) (zp2 n) W z
def ji8{x:Wa}:∀{l:W7}{i:Nat},zes l x i<(i+l.length:Int)/\(zes l x i=-1\/(i:Int)<=zes l x i)
 |[],i=>⟨by simp[zes];omega,.inl rfl⟩
 |y::l,i=>by
  have:=ji8 (x:=x) (l:=l) (i:=i+1);show(if y=x then(i:Int)else zes l x (i+1))<_/\_;have e:zes (y::l) x i=if y=x then(i:Int)else zes l x (i+1):=rfl
  grind
def ja7(a:W7)(x:Wa):∃t,(Qh a x).2=a++t:=by unfold Qh;split;{simp};.split;{simp};simp
def jan{a:W7}{x y:Wa}(h:y∈(Qh a x).2):y∈a\/y=x:=by unfold Qh at h;grind
def jky(n:jl){N:Nat}(T:N<=1000)(hz:zkx N 60000 n)(hs:∀s∈n.1,zfl s)(hR:z8z n)(z:Int)(h1:1<=z)(h2:z<=200):Tn (λnn=>zaw nn n z) (λr=>∃a:Wd,ClsAt (Zg n.1) a 256/\r=jof a ((qu (Zg n.1) 256).length:Int) (zo2 n a (qu (Zg n.1) 256).length z 202 0 [[]] [] [])):=by
 have z1:=hz.s;unfold zaw;refine Waj (zb3 n T hz) waa λb L=>?_;have L:=L.2 hR;subst L;refine wae rfl ?_;refine Tt.J (λs=>s=(z,false,n,⟨replicate 256 0,wci⟩,0,[],[])) (λnx G=>?_) λs j=>?_;{refine Tt.b1 (wae (wc3 U) (G _ ?_));grind};subst j;dsimp only;refine wae rfl ?_;refine Waj (jpk n.1 U hs) waa λcw⟨hw,hc⟩=>?_;obtain⟨a,w,u⟩:=cw;dsimp only at hw hc;obtain⟨W,hW⟩:∃W,(qu (Zg n.1) 256).length=W:=⟨_,rfl⟩
 have c0:W<=256:=by{rw[<- hW];exact zeb _ _};have a4:ClsN a W:=hW▸zqg (zii n.1) hc;rw[hW]at hw⊢;subst hw;obtain⟨R,I⟩:∃R,zo2 n a W z 202 0 [[]] [] []=R:=⟨_,rfl⟩
 refine Tt.mono (Q:=λr=>r=jof a (W:Int) R) ?_ λr hr=>⟨a,hc,by rw[I];exact hr⟩
 refine Tt.loop (λm s=>∃(i:Nat)(e rows:W7)(d:Wa),m=202-i/\s=(z,(i:Int),n,⟨replicate 256 0,wci⟩,0,a,(W:Int),e,[],[],rows,d)/\i<=e.length/\(e.length:Int)<=z/\rows.length=i/\d.length=i/\(∀x∈e,RN n.1.length x)/\R=zo2 n a W z (202-i) i e rows d) 202 waa ⟨0,_,_,_,rfl,rfl,U,U,rfl,rfl,λx hx=>by rw[wcr.1 hx];exact RN.nil _,I.symm⟩ λm s⟨i,e,rows,d,hm,j,hi,hl,hr,L,hf,hB⟩ nx G=>?_;subst j;dsimp only;have v:zo2 n a W z (202-i) i e rows d=if i<e.length then(match znb (spN n a e i) z (range W) e []with
   |none=>some none
   |some (Z,row)=>zo2 n a W z (202-(i+1)) (i+1) Z (rows++[row]) (d++[zp2 n (e.getD i [])]))else some (some (e,rows,d)):=by
  rw[show 202-i=(202-(i+1))+1 by omega];rfl
 refine wab (λc=>?_) (λc=>Tt.pure ?_);rotate_left
 {have c:=wck c;rw[hB,v,if_neg U];rfl};have c:=wcj c;have M:i<e.length:=U;rw[if_pos M]at v;refine Tt.loop (λm s=>∃(k:Nat)(f:W7)(row:Wa),k<=W/\m=W-k/\s=(z,(i:Int),(k:Int),n,⟨replicate 256 0,wci⟩,0,a,(W:Int),f,row,[],[],rows,d)/\i<f.length/\(f.length:Int)<=z/\row.length=k/\(∀x∈f,RN n.1.length x)/\f.getD i []=e.getD i []/\znb (spN n a e i) z (range W) e []=znb (spN n a e i) z ((range W).drop k) f row) W waa.fst ⟨0,e,[],U,Wab,rfl,M,hl,rfl,hf,rfl,rfl⟩ λm2 s⟨k,f,row,hk,c5,j,o,a8,b3,C,D,A⟩ ny b0=>?_;subst j;dsimp only;refine wab (λc=>?_) (λc=>?_)
 .have c:=wcj c;have O:k<W:=U;have a6:(range W).drop k=k::(range W).drop (k+1):=by{rw[wcw X];simp};have l:znb (spN n a e i) z ((range W).drop k) f row=if z<((Qh f (spN n a e i k)).2.length:Int)then none else znb (spN n a e i) z ((range W).drop (k+1)) (Qh f (spN n a e i k)).2 (row++[(Qh f (spN n a e i k)).1]):=by{rw[a6];rfl};have F:f.getD i []=f[i]:=X;refine Waj (jgy a a4 k O) waa.fst.fst λbs a2=>wac _ a2 (wac _ (yj o) (wac _ (atN o) ?_));have b7:=(C _ (wcm o)).len;refine Waj (jfi n T hz hs f[i] U (zoo a k) (zxa a k)) waa.fst.fst λp B=>?_;subst B;refine Tt.J (λs=>s=(z,(i:Int),(k:Int),spN n a e i k,n,⟨replicate 256 0,wci⟩,0,a,(W:Int),f,row,[],[],rows,d)) (λnz g=>?_) λs j=>?_;{refine wab (λc=>?_) λc=>g _ ?_;{have c:=wcj c;have a7:i=0:=U;refine Waj (jab n T hz hs (zoo a k) (zxa a k)) waa.fst.fst λp B=>g _ ?_;subst B;unfold spN zkz;rw[if_pos a7]};.have c:=wck c;unfold spN zkz;rw[if_neg U,<- D,F]};subst j;dsimp only;obtain⟨p,B⟩:∃p,spN n a e i k=p:=⟨_,rfl⟩
  have S:RN n.1.length p:=B▸jno n a e i k;have c8:=S.len;rw[B]at l⊢;refine Waj (jaz f p U U λy hy=>by have:=(C y hy).len;omega) waa.fst.fst λq hq=>?_;subst hq;have hp:=zl5 f p;obtain⟨tl,P⟩:=ja7 f p;refine Tt.J (λs=>s=(z,(i:Int),(k:Int),(Qh f p).1,n,⟨replicate 256 0,wci⟩,0,a,(W:Int),(Qh f p).2,row,[],[],rows,d)) (λnz g=>?_) λs j=>?_;{unfold Qh at g;refine wab (λc=>g _ ?_) λc=>?_;{have c:=wcj c;have:p=[]:=wew.1 U;rw[if_pos this]};.have c:=wck c;have a9:p≠[]:=λh=>c (by rw[h];rfl);rw[if_neg a9]at g;refine wab (λY=>Tt.b1 ?_) λY=>g _ ?_;{rw[if_pos (wcj Y)]at g;exact wac _ (yp Wag U) (g _ rfl)};.rw[if_neg (wck Y)]};subst j;dsimp only;refine wab (λH=>Tt.pure ?_) λH=>?_;{rw[hB,v,A,l,if_pos (wcj H)];rfl};.have H:=wck H;rw[if_neg H]at l;refine wac _ (yp Wag U) (Tt.b1 ?_);rw[wI U U];refine b0 (W-(k+1)) _ U ⟨k+1,(Qh f p).2,row++[(Qh f p).1],U,rfl,rfl,U,U,by simp[b3],λx hx=>?_,?_,A.trans l⟩;{rcases jan hx with h|h;{exact C x h};.rw[h];exact S};.rw[<- D,P];simp only[List.getD_eq_getElem?_getD];rw[wcx o]
 .have c:=wck c;have O:k=W:=U;have a5:(range W).drop k=[]:=wds Wag;rw[a5]at A;have A:znb (spN n a e i) z (range W) e []=some (f,row):=A;rw[A]at v;dsimp only at v;have F:f.getD i []=f[i]:=by{simp[List.getD,o]};have b7:=(C _ (wcm o)).len;refine wac _ (yp Wag U) (wac _ (yj o) (wac _ (atN o) ?_));refine Waj (jbh n T hz f[i] U) waa.fst.fst λt ht=>?_;subst ht;refine wac _ (yp Wag U) (Tt.b1 ?_);rw[wI U U];exact Tt.fst (G (202-(i+1)) _ U ⟨i+1,f,rows++[row],d++[zp2 n f[i]],rfl,rfl,U,a8,by simp[hr],by simp[L],C,by rw[hB,v,<- D,F]⟩)
def b8(x:Int)(i:Nat):Int:=wr .u8 ((wr .u64 x).fdiv (2 ^ (min (56-8*(i:Int)).toNat 64)))
def jls(l:Wa):Wa:=l.flatMap λx=>(range 8).map (b8 x)
def zzs(l:Wa):Wc:=(jls l).map λn=>UInt8.ofNat n.toNat
def jkk{l:Wa}{k:Nat}(a:k<l.length):jls (l.take (k+1))=jls (l.take k)++(range 8).map (b8 l[k]):=by unfold jls;rw[wcp a,wer];simp
def Key_ex(l:Wa)(u:l.length<=1000):Tn (λo=>zdm o l) (λr=>r=zzs l):=by unfold zdm;refine Tt.loop (λj t=>∃k out,k<=l.length/\j=l.length-k/\t=(l,(l.length:Int),(k:Int),out)/\out.length=8*k/\out=jls (l.take k)) l.length waa ⟨0,_,U,U,rfl,V,rfl⟩ λj t⟨k,out,s,q,h,n,b⟩ w f=>?_;subst h;dsimp only;refine wad (λc=>?_) (λc=>?_);{have a:k<l.length:=U;refine Tt.at a (Tt.loop (λm t=>∃i out,i<=8/\m=8-i/\t=(l[k],(56-8*i:Int),l,(l.length:Int),(k:Int),out)/\out.length=8*k+i/\out=jls (l.take k)++(range i).map (b8 l[k])) 8 waa.fst ⟨0,_,U,Wab,rfl,U,X⟩ λm t⟨i,out,p,v,h,n,b⟩ x g=>?_);subst h;dsimp only;refine wad (λc=>?_) (λc=>?_);{refine wac _ (show zvl .u64 (wr .u64 l[k]) (56-8*i:Int)=some ((wr .u64 l[k]).fdiv (2 ^ (min (56-8*(i:Int)).toNat 64))) by unfold zvl;rw[if_neg U];rfl) ?_;refine wac _ (yp X U) (wai ?_);refine g (8-(i+1)) _ U ⟨i+1,out++[b8 l[k] i],U,rfl,by show _=_;congr 2;omega,X,?_⟩;rw[b,List.range_succ,wdb,wc2];rfl};.have d:i=8:=U;subst d;refine wai ?_;exact(f (l.length-(k+1)) _ U ⟨k+1,_,U,rfl,rfl,U,by rw[b,jkk a]⟩).fst};.have e:k=l.length:=U;rw[e,wc8]at b;exact wac _ rfl (Tt.pure (by rw[b];rfl))
def jss:∀x:Fin 1000,(x.val:Int)=256*((UInt8.ofNat (b8 (x.val:Int) 6).toNat).toNat:Int)+((UInt8.ofNat (b8 (x.val:Int) 7).toNat).toNat:Int):=by decide +kernel
def z3z(x:Int)(l:Wa):zzs (x::l)=((range 8).map λi=>UInt8.ofNat (b8 x i).toNat)++zzs l:=by rfl
def jdc:∀{l m:Wa},(∀x∈l,0<=x/\x<1000)->(∀x∈m,0<=x/\x<1000)->zzs l=zzs m->l=m
 |[],[],_,_,_=>rfl
 |[],y::m,_,_,h=>by trivial
 |x::l,[],_,_,h=>by trivial
 |x::l,y::m,c,d,h=>by rw[z3z,z3z]at h;obtain⟨j,f⟩:=List.append_inj h V;have n:=c x V;have o:=d y V;have g:∀i,i<8->UInt8.ofNat (b8 x i).toNat=UInt8.ofNat (b8 y i).toNat:=λi k=>by{simp_all};have a:=jss ⟨x.toNat,U⟩;have b:=jss ⟨y.toNat,U⟩;dsimp only at a b;rw[show((x.toNat:Nat):Int)=x by omega]at a;rw[show((y.toNat:Nat):Int)=y by omega]at b;rw[g 6 U,g 7 U]at a;have e:x=y:=U;rw[e,jdc (λz hz=>c z X) (λz hz=>d z X) f]
def zqo{α β:Type}{eqb:α->α->Bool}{k a:α}{v:β}(b:∀x,eqb a x=true->eqb k x=true->False):∀{m:Wam (α×β×Unit)},eqb a k=false->zl eqb (Yr eqb m k v) a=zl eqb m a
 |[],h=>by unfold Yr zl;rw[h];rfl
 |e::r,h=>by unfold Yr;cases c:eqb k e.1;{show zl eqb (e::Yr eqb r k v) a=zl eqb (e::r) a;unfold zl;cases eqb a e.1;{exact zqo b h};rfl};.unfold zl;grind
theorem jcu{x y:List Int}:∀{l:List (List Int)}{i:Nat},zes (l++[x]) y i=if zes l y i<0 then(if x=y then((i+l.length:Nat):Int)else -1)else zes l y i
 |[],i=>by
  rfl
 |z::l,i=>by
  show(if z=y then(i:Int)else zes (l++[x]) y (i+1))=if(if z=y then(i:Int)else zes l y (i+1))<0 then(if x=y then((i+(l.length+1):Nat):Int)else -1)else(if z=y then(i:Int)else zes l y (i+1))
  by_cases h:z=y
  ·grind
  ·simp only[if_neg h];rw[jcu,show i+1+l.length=i+(l.length+1) by omega]
structure WhOk(N:Nat)(wh:Wh)(all:List (List Int)):Prop where
 g:∀x,RN N x->x≠[]->zl zov wh (zzs x)=if zes all x 0<0 then none else some (zes all x 0)
def WhOk.nil(N:Nat):WhOk N [] [[]]:=⟨λx _ a=>by
 have:zes [[]] x 0=-1:=by{show(if([]:Wa)=x then((0:Nat):Int)else -1)=-1;grind};rw[this,if_pos V];rfl⟩
def WhOk.add{N:Nat}{l:Wh}{a:W7}(h:WhOk N l a)(r:N<=1000){x:Wa}(q:RN N x)(o:x≠[])(n:zes a x 0<0):WhOk N (Yr zov l (zzs x) (a.length:Int)) (a++[x]):=⟨λy j f=>by
 have p:∀k,zov k k=true:=λk=>by{simp[zov]};rw[jcu];by_cases e:x=y;{subst e;rw[if_pos n,if_pos rfl,zm2 (p _),if_neg U,wd0]};.have i:zzs y≠zzs x:=λc=>e (jdc (λz hz=>by have:=q.b z hz;omega) (λz hz=>by have:=j.b z hz;omega) c.symm);have d:zov (zzs y) (zzs x)=false:=by{simpa [zov]using i};rw[zqo (λz m c=>i (by simp[zov]at m c;grind)) d,h.g y j f];grind⟩
def DBX(n:jl)(Z a:Wd)(M q w c:Nat)(next:W7)(label:Wa)(e:Wa)(b:W7)(x:Wa)(s:DBS):Prop:=
 ∃(row:Wa)(d:W7)(f:Wh),s=((M:Int),(q:Int),(w:Int),(c:Int),n,Z,0,a,(w:Int),row,[],[],next,label,d,f)/\row.length=w/\row.take (c+1)=e.take c++[(Qh b x).1]/\d=(Qh b x).2/\WhOk n.1.length f d
def jrk{ι:Type}{D:Fi ι}{φ:ι->Nat}{β:Type}{Q:β->Prop}(hφ:Big D φ){n:jl}{Z a:Wd}{M q w c:Nat}{next:W7}{label:Wa}(hM:M<=200)(hc:c<w)(O:n.1.length<=1000){row:Wa}{b:W7}{k:Wh}(R:row.length=w)(h1:b.length<=M)(j:WhOk n.1.length k b)(h2:q<b.length)(h3:∀x∈b,RN n.1.length x)
  {nx:ι->DBS->Wal β}{d:Wa}(p:Nx D Q (DBX n Z a M q w c next label row b d) nx) (C:RN n.1.length d) :
  Tt D (λi=>ifB (decide ((d.length:Int)=0)) (ja (jq row.length (c:Int)) λF=>ja (yy row F (-1)) λG=>nx i ((M:Int),(q:Int),(w:Int),(c:Int),n,Z,0,a,(w:Int),G,[],[],next,label,b,k)) (ja (zdm (φ i) d) λt=>ja (some (zl zov k t)) λu=>J (λ(m:Int×(Wam (Wc×Int×Unit))×W7)=>ja (jq row.length (c:Int)) λH=>ja (yy row H m.1) λI=>nx i ((M:Int),(q:Int),(w:Int),(c:Int),n,Z,0,a,(w:Int),I,[],[],next,label,m.2.2,m.2.1)) λy=>ifB (!u.isSome) (ja (some (b.length:Int)) λz=>ja (some (Yr zov k t z)) λL=>ja (apO 24 b [d]) λN=>y (z,L,N)) (y (gD 0 u,k,b)))) Q:=by
 have Y:=C.len;have hp:=zl5 b d;have r:∀v,(row.set c v).take (c+1)=row.take c++[v]:=λv=>by
  have A:c<(row.set c v).length:=W;rw[wcp A,List.take_set_of_le (wcs c)];simp
 refine wab (λc0=>waj U (wac _ (zr _ U) (p _ ⟨_,_,_,rfl,by simp[R],?_,?_,j⟩))) λc0=>?_
 ·have c0:=wcj c0;have e:d=[]:=wew.1 U;rw[r];unfold Qh;rw[if_pos e]
 ·have c0:=wcj c0;have e:d=[]:=wew.1 U;unfold Qh;rw[if_pos e]
 have c0:=wck c0;have l:d≠[]:=λh=>c0 (by rw[h];rfl);refine Waj (Key_ex _ U) hφ λa0 o=>Tt.b1 ?_;subst o;have P:=j.g d C l;refine Tt.J (λs=>∃(k:Wh),s=((Qh b d).1,k,(Qh b d).2)/\WhOk n.1.length k (Qh b d).2) (λny f=>?_) λs⟨k,S,T⟩=>?_
 ·rw[P];unfold Qh at f;rw[if_neg l]at f;by_cases B:zes b d 0<0
  ·rw[if_pos B]at f⊢;exact wah rfl (Tt.b1 (Tt.b1 (wac _ (yp X U) (f _ ⟨_,rfl,j.add O C l B⟩))))
  ·rw[if_neg B]at f⊢;exact wae rfl (f _ ⟨_,rfl,j⟩)
 ·subst S;exact waj U (wac _ (zr _ U) (p _ ⟨_,_,_,rfl,X,r _,rfl,T⟩))
def jkm(n:jl){N:Nat}(Y:N<=1000)(hz:zkx N 60000 n)(hs:∀s∈n.1,zfl s)(hR:z8z n)(z:Int)(d3:1<=z)(d4:z<=200):Tn (λnn=>zbv nn n z) (λr=>∃a,ClsAt (Zg n.1) a 256/\r=jof a ((qu (Zg n.1) 256).length:Int) (zo2 n a (qu (Zg n.1) 256).length z 202 0 [[]] [] [])):=by
 have z1:=hz.s;unfold zbv;refine Waj (zmr n Y hz) waa λr l=>?_;have l:=l.2 hR;subst l;refine wae rfl (Tt.J (λs=>s=(z,false,n,⟨replicate 256 0,wci⟩,0,[],[])) (λnx y=>?_) λs e=>?_);{refine Tt.b1 (wae (wc3 U) (y _ ?_));rw[wc3 U]};subst e;dsimp only;refine wae rfl ?_;obtain⟨M,rfl⟩:∃M:Nat,z=(M:Int):=⟨z.toNat,U⟩
 refine Waj (kOf_ex n.1 U hs) waa λqq⟨hw,hc⟩=>?_;obtain⟨a,w',u⟩:=qq;dsimp only at hw hc;obtain⟨w,hW⟩:∃w,(qu (Zg n.1) 256).length=w:=⟨_,rfl⟩
 have d2:w<=256:=by{rw[<- hW];exact zeb _ _};have a4:=hW▸zqg (zii n.1) hc;rw[hW]at hw⊢;subst hw;obtain⟨R,F⟩:∃R,zo2 n a w (M:Int) 202 0 [[]] [] []=R:=⟨_,rfl⟩
 refine Tt.mono ?_ λr l=>⟨a,hc,by rw[F];exact l⟩
 have I:jof a (w:Int) (some none)=((⟨replicate 256 0,wci⟩,0,[],[],()),0,16,()):=rfl;generalize (⟨replicate 256 0,wci⟩:Wd)=Z at I⊢;refine Tt.loop (λm s=>∃(q:Nat)(next:W7)(label:Wa)(d:W7)(v:Wh),m=202-q/\s=((M:Int),(q:Int),n,Z,0,a,(w:Int),[],[],next,label,d,v)/\q<=d.length/\d.length<=M/\next.length=q/\label.length=q/\(∀x∈d,RN n.1.length x)/\WhOk n.1.length v d/\R=zo2 n a w (M:Int) (202-q) q d next label) 202 waa ⟨0,_,_,_,_,rfl,rfl,U,X,rfl,rfl,λx hx=>by rw[wcr.1 hx];exact RN.nil _,WhOk.nil _,F.symm⟩ λm s⟨q,next,label,d,v,hm,e,hi,hl,i3,i4,hf,b3,hB⟩ nx y=>?_;subst e;dsimp only;have j:zo2 n a w (M:Int) (202-q) q d next label=if q<d.length then(match znb (spN n a d q) (M:Int) (range w) d []with
   |none=>some none
   |some (a0,row)=>zo2 n a w (M:Int) (202-(q+1)) (q+1) a0 (next++[row]) (label++[zp2 n (d.getD q [])]))else some (some (d,next,label)):=by
  rw[show 202-q=(202-(q+1))+1 by omega];rfl
 refine wab (λc=>?_) (λc=>Tt.pure ?_);rotate_left
 {have c:=wck c;rw[hB,j,if_neg U];rfl};have c:=wcj c;have G:q<d.length:=U;rw[if_pos G]at j;refine wac _ (mkN U U) ?_;simp only[wci];refine Tt.loop (λm s=>∃(c:Nat)(row:Wa)(b:W7)(v:Wh),m=w-c/\c<=w/\s=((M:Int),(q:Int),(w:Int),(c:Int),n,Z,0,a,(w:Int),row,[],[],next,label,b,v)/\row.length=w/\b.length<=M/\q<b.length/\(∀x∈b,RN n.1.length x)/\WhOk n.1.length v b/\b.getD q []=d.getD q []/\znb (spN n a d q) (M:Int) (range w) d []=znb (spN n a d q) (M:Int) ((range w).drop c) b (row.take c)) w waa.fst ⟨0,_,_,_,U,U,rfl,V,hl,G,hf,b3,rfl,rfl⟩ λm s⟨c,row,b,v,hm,c3,e,j1,j2,o,L,j5,j6,O⟩ ny a8=>?_;subst e;dsimp only;refine wab (λD=>?_) (λD=>?_);{have D:=wcj D;have k:c<w:=U;have a6:(range w).drop c=c::(range w).drop (c+1):=by{rw[wcw (by simpa using k)];simp};have f:znb (spN n a d q) (M:Int) ((range w).drop c) b (row.take c)=if(M:Int)<((Qh b (spN n a d q c)).2.length:Int)then none else znb (spN n a d q) (M:Int) ((range w).drop (c+1)) (Qh b (spN n a d q c)).2 (row.take c++[(Qh b (spN n a d q c)).1]):=by{rw[a6];rfl};have a7:b.getD q []=b[q]:=by{simp[List.getD,o]};have a9:=(L _ (wcm o)).len;refine Waj (jiu a a4 c k) waa.fst.fst λbs a2=>wac _ a2 (Tt.J (DBX n Z a M q w c next label row b (spN n a d q c)) (λnz H=>?_) λs⟨p,zme,S,e,P,B,C,Q⟩=>?_);{refine wab (λi=>?_) (λi=>?_);{have i:=wcj i;have c8:q=0:=U;have A:spN n a d q c=zgq n (zoo a c):=by{unfold spN zkz;grind};refine Tt.J (DBX n Z a M q w c next label row b (spN n a d q c)) (λnu g=>?_) λs⟨p,zme,S,e,P,B,C,Q⟩=>?_;{refine Waj (jpp n Y hz (zoo a c) (zxa a c)) waa.fst.fst λr l=>?_;subst l;rw[A]at g;exact jrk waa.fst.fst U k U j1 j2 j5 o L g (z3s _ _)};.subst e;exact H _ ⟨_,_,_,rfl,P,B,C,Q⟩};.have i:=wck i;have A:spN n a d q c=zle n b[q] (zoo a c):=by{unfold spN zkz;grind};refine Tt.J (DBX n Z a M q w c next label row b (spN n a d q c)) (λnu g=>?_) λs⟨p,zme,S,e,P,B,C,Q⟩=>?_;{refine wac _ (yj o) (wac _ (atN o) ?_);refine Waj (jtc n Y hz b[q] U (zoo a c) (zxa a c)) waa.fst.fst λr l=>?_;subst l;rw[A]at g;exact jrk waa.fst.fst U k U j1 j2 j5 o L g (jcc _ _ _)};.subst e;exact H _ ⟨_,_,_,rfl,P,B,C,Q⟩};.subst e;dsimp only;have b5:=jno n a d q c;generalize spN n a d q c=T at b5 B C f;have hp:=zl5 b T;obtain⟨tl,d1⟩:=ja7 b T;subst C;refine wab (λi=>Tt.pure ?_) λi=>Tt.b1 ?_;{grind};have i:=wck i;rw[if_neg i,<- B]at f;rw[wI U U];refine a8 (w-(c+1)) _ U ⟨c+1,_,_,_,rfl,U,rfl,P,U,U,λx hx=>?_,Q,?_,O.trans f⟩;{rcases jan hx with h|h;{grind};grind};grind};.have D:=wck D;have c4:c=w:=U;have a5:(range w).drop c=[]:=wds X;have b0:row.take c=row:=wd8 U;rw[a5,b0]at O;have O:znb (spN n a d q) (M:Int) (range w) d []=some (b,row):=O;rw[O]at j;dsimp only at j;have a7:b.getD q []=b[q]:=X;have a9:=(L _ (wcm o)).len;refine wac _ (yp X U) (wac _ (yj o) (wac _ (atN o) ?_));refine Waj (jon n Y hz b[q] U) waa.fst.fst λt ht=>?_;subst ht;refine wac _ (yp X U) (Tt.b1 ?_);rw[wI U U];exact(y (202-(q+1)) _ U ⟨q+1,next++[row],label++[zp2 n b[q]],b,v,rfl,rfl,U,j2,X,X,L,j5,X⟩).fst
def ClsAt.one{E:Nat->Nat->Bool}{a b:Wd}(c:ClsAt E a 256)(d:ClsAt E b 256):a=b:=
 congrArg (·.1) (Of_one (x:=(a,0,())) (y:=(b,0,())) ⟨rfl,c⟩ ⟨rfl,d⟩)
end
end Go.Proofs.YtiafpechgjopfaaGreatDoor.T
namespace Go.Proofs.YtiafpechgjopfaaGreatDoor
noncomputable section
open _root_.Go.Proofs.Tryz
set_option maxRecDepth 100000
set_option maxHeartbeats 8000000
set_option linter.unusedVariables false
set_option linter.unusedSimpArgs false
set_option linter.defProp false
open List (replicate range)
open Go
structure Rx where
 kind:Int
 s0:Int
 s1:Int
 s2:Int
 s3:Int
deriving DecidableEq
def jwy(a b c d e b1 f g:Int):Bool:=a == e && (b == b1 && (c == f && d == g))
def ofK(k:Int):Int:=if k=1\/k=2 then 0 else if k=3\/k=4 then 2 else if k=5\/k=6\/k=7 then 1 else -1
def Rx.bare(x:Rx):Bool:=jwy x.s0 x.s1 x.s2 x.s3 0 0 0 0
def zdj:List Rx->Int->Int
 |[],q=>if q=1 then 0 else 3
 |x::r,q=>if ofK x.kind<0\/(x.kind≠1/\x.bare=false)then 1 else if q<ofK x.kind then 3 else zdj r (q-ofK x.kind+1)
def jgb(l:List Rx):Int:=if 512<l.length then 4 else zdj l 0
inductive E where
 |set (s0 s1 s2 s3:Int)
 |empty
 |cat (a b:E)
 |alt (a b:E)
 |star (a:E)
 |plus (a:E)
 |opt (a:E)
def Qq(k:Int):Rx:=⟨k,0,0,0,0⟩
def post:E->List Rx
 |.set c d e f=>[⟨1,c,d,e,f⟩]
 |.empty=>[Qq 2]
 |.cat a b=>post a++(post b++[Qq 3])
 |.alt a b=>post a++(post b++[Qq 4])
 |.star a=>post a++[Qq 5]
 |.plus a=>post a++[Qq 6]
 |.opt a=>post a++[Qq 7]
def zi5(e:E):0<(post e).length:=by cases e<;>simp[post]<;>omega
def flat(st:List E):List Rx:=(st.reverse).flatMap post
def J7(e:E)(st:Wam E):flat (e::st)=flat st++post e:=by simp[flat]
def jsw(x:Rx)(h:x.bare=true):x=Qq x.kind:=by obtain⟨k,a,b,c,d⟩:=x;simp[Rx.bare,jwy]at h;simp[Qq,h]
def jr8(l:Wam Rx):∀st,zdj l st.length=0->∃e,flat st++l=post e:=by
 induction l with
 |nil=>
  intro st h;rw[zdj]at h;split at h
  .rename_i j;match st,j with
   |[e],_=>exact⟨e,by simp[flat]⟩
   |[],j=>simp at j
   |_::_::_,j=>grind
  omega
 |cons x r k=>
  intro st h;rw[zdj]at h;split at h;{omega}
  .rename_i j;split at h;{omega}
   .rename_i d;have c:x.kind=1\/x.kind=2\/x.kind=3\/x.kind=4\/x.kind=5\/x.kind=6\/x.kind=7:=by{have:¬ofK x.kind<0:=λh=>j (Or.inl h);unfold ofK at this;split at this;{omega};.split at this;{omega};.split at this<;>omega};have m:x.kind≠1->x=Qq x.kind:=λo=>jsw x (by
     cases n:x.bare;{exact absurd (Or.inr ⟨o,n⟩) j};.rfl)
    rcases c with c|c|c|c|c|c|c;{have f:x=⟨1,x.s0,x.s1,x.s2,x.s3⟩:=by{rw[<- c]};have i:ofK x.kind=0:=by{rw[c];rfl};obtain⟨e,g⟩:=k (.set x.s0 x.s1 x.s2 x.s3::st) (by rw[i]at h;simpa using h);exact⟨e,by rw[<- g,J7,f];simp[post]⟩};{have f:=m U;rw[c]at f;have i:ofK x.kind=0:=by{rw[c];rfl};obtain⟨e,g⟩:=k (.empty::st) (by rw[i]at h;simpa using h);exact⟨e,by rw[<- g,J7,f];simp[post]⟩}
    .have f:=m U;rw[c]at f;have i:ofK x.kind=2:=by{rw[c];rfl};rw[i]at h d;match st,h,d with
     |b::a::st,h,_=>
      obtain⟨e,g⟩:=k (.cat a b::st) (by rw[<- h];congr 1;simp;omega);exact⟨e,by rw[<- g,J7,J7,J7,f];simp[post]⟩
     |[],_,d=>simp at d
     |[_],_,d=>simp at d
    .have f:=m U;rw[c]at f;have i:ofK x.kind=2:=by{rw[c];rfl};rw[i]at h d;match st,h,d with
     |b::a::st,h,_=>
      obtain⟨e,g⟩:=k (.alt a b::st) (by rw[<- h];congr 1;simp;omega);exact⟨e,by rw[<- g,J7,J7,J7,f];simp[post]⟩
     |[],_,d=>simp at d
     |[_],_,d=>simp at d
    .have f:=m U;rw[c]at f;have i:ofK x.kind=1:=by{rw[c];rfl};rw[i]at h d;match st,h,d with
     |a::st,h,_=>
      obtain⟨e,g⟩:=k (.star a::st) X;exact⟨e,by rw[<- g,J7,J7,f];simp[post]⟩
     |[],_,d=>grind
    .have f:=m U;rw[c]at f;have i:ofK x.kind=1:=by{rw[c];rfl};rw[i]at h d;match st,h,d with
     |a::st,h,_=>
      obtain⟨e,g⟩:=k (.plus a::st) X;exact⟨e,by rw[<- g,J7,J7,f];simp[post]⟩
     |[],_,d=>grind
    .have f:=m U;rw[c]at f;have i:ofK x.kind=1:=by{rw[c];rfl};rw[i]at h d;match st,h,d with
     |a::st,h,_=>
      obtain⟨e,g⟩:=k (.opt a::st) X;exact⟨e,by rw[<- g,J7,J7,f];simp[post]⟩
     |[],_,d=>grind
def js2(l:Wam Rx)(h:jgb l=0):l.length<=512/\∃e,l=post e:=by unfold jgb at h;split at h;{omega};.obtain⟨e,a⟩:=jr8 l [] h;exact⟨U,e,by simpa [flat]using a⟩
def jv:E->Nat
 |.set ..=>1|.empty=>0|.cat a b=>jv a+jv b|.alt a b=>jv a+jv b|.star a=>jv a|.plus a=>jv a|.opt a=>jv a
def yi:E->Bool
 |.set ..=>false|.empty=>true|.cat a b=>yi a && yi b|.alt a b=>yi a ||yi b|.star _=>true|.plus a=>yi a|.opt _=>true
def qj:E->Int->List Int
 |.set ..,n=>[n]|.empty,_=>[]
 |.cat a b,n=>qj a n++(if yi a then qj b (n+jv a)else [])
 |.alt a b,n=>qj a n++qj b (n+jv a)
 |.star a,n=>qj a n|.plus a,n=>qj a n|.opt a,n=>qj a n
def vn:E->Int->List Int
 |.set ..,n=>[n]|.empty,_=>[]
 |.cat a b,n=>(if yi b then vn a n else [])++vn b (n+jv a)
 |.alt a b,n=>vn a n++vn b (n+jv a)
 |.star a,n=>vn a n|.plus a,n=>vn a n|.opt a,n=>vn a n
def za4:E->Int->Int->Int->Prop
 |.set ..,_,_,_=>False|.empty,_,_,_=>False
 |.cat a b,n,i,j=>za4 a n i j\/za4 b (n+jv a) i j\/(i∈vn a n/\j∈qj b (n+jv a))
 |.alt a b,n,i,j=>za4 a n i j\/za4 b (n+jv a) i j
 |.star a,n,i,j=>za4 a n i j\/(i∈vn a n/\j∈qj a n)
 |.plus a,n,i,j=>za4 a n i j\/(i∈vn a n/\j∈qj a n)
 |.opt a,n,i,j=>za4 a n i j
def zlw:E->List Rx
 |.set a b c d=>[⟨1,a,b,c,d⟩]|.empty=>[]|.cat a b=>zlw a++zlw b|.alt a b=>zlw a++zlw b|.star a=>zlw a|.plus a=>zlw a|.opt a=>zlw a
def z45(e:E):(zlw e).length=jv e:=by induction e<;>simp_all [zlw,jv]
def zpr(e:E):(post e).filter (λx=>x.kind == 1)=zlw e:=by induction e<;>simp_all [zlw,post,Qq]
def zkq(l:List Int):Prop:=l.Pairwise (· < ·)
def zb6{a b:Wam Int}{m:Int}(c:zkq a)(d:zkq b)(e:∀x∈a,x<m)(f:∀x∈b,m<=x):zkq (a++b):=by unfold zkq;rw[wel];exact⟨c,d,λx g y h=>X⟩
def V6(e:E):∀n,zkq (qj e n)/\∀x∈qj e n,n<=x/\x<n+jv e:=by induction e with|set=>{intro n;exact⟨by simp[qj,zkq],by simp[qj,jv];omega⟩}|empty=>{intro n;exact⟨by simp[qj,zkq],by simp[qj]⟩}|cat a b d f=>{intro n;obtain⟨h,i⟩:=d n;obtain⟨j,k⟩:=f (n+jv a);refine⟨?_,?_⟩;{simp[qj];split;{exact zb6 h j (λx c=>(i x c).2) (λx c=>(k x c).1)};grind};.intro x c;simp[qj,wcu]at c;simp[jv];grind}|alt a b d f=>{intro n;obtain⟨h,i⟩:=d n;obtain⟨j,k⟩:=f (n+jv a);refine⟨zb6 h j (λx c=>(i x c).2) (λx c=>(k x c).1),?_⟩;intro x c;simp[qj,wcu]at c;simp[jv];grind}|star a g=>{exact g}|plus a g=>{exact g}|opt a g=>exact g
def zb2(e:E):∀n,zkq (vn e n)/\∀x∈vn e n,n<=x/\x<n+jv e:=by induction e with|set=>{intro n;exact⟨by simp[vn,zkq],by simp[vn,jv];omega⟩}|empty=>{intro n;exact⟨by simp[vn,zkq],by simp[vn]⟩}|cat a b d f=>{intro n;obtain⟨h,i⟩:=d n;obtain⟨j,k⟩:=f (n+jv a);refine⟨?_,?_⟩;{simp[vn];split;{exact zb6 h j (λx c=>(i x c).2) (λx c=>(k x c).1)};grind};.intro x c;simp[vn,wcu]at c;simp[jv];grind}|alt a b d f=>{intro n;obtain⟨h,i⟩:=d n;obtain⟨j,k⟩:=f (n+jv a);refine⟨zb6 h j (λx c=>(i x c).2) (λx c=>(k x c).1),?_⟩;intro x c;simp[vn,wcu]at c;simp[jv];grind}|star a g=>{exact g}|plus a g=>{exact g}|opt a g=>exact g
def jfa(e:E):∀n i j,za4 e n i j->(n<=i/\i<n+jv e)/\n<=j/\j<n+jv e:=by
 induction e with
 |set=>intro n i j h;trivial
 |empty=>intro n i j h;trivial
 |cat a b f g=>
  intro n i j h;simp[jv];rcases h with h|h|⟨h,c⟩
  {grind};{grind};.have:=(zb2 a n).2 i h;have:=(V6 b _).2 j c;omega
 |alt a b f g=>intro n i j h;simp[jv];rcases h with h|h;{grind};grind
 |star a d=>
  intro n i j h;simp[jv];rcases h with h|⟨h,c⟩
  {grind};.have:=(zb2 a n).2 i h;have:=(V6 a n).2 j c;omega
 |plus a d=>
  intro n i j h;simp[jv];rcases h with h|⟨h,c⟩
  {grind};.have:=(zb2 a n).2 i h;have:=(V6 a n).2 j c;omega
 |opt a d=>exact d
def AtT(l:List Rx)(s:Nat)(e:E)(t:Nat):Prop:=∃a b,l=a++post e++b/\s=a.length/\t=s+(post e).length
def zz:E->Int|.set ..=>1|.empty=>2|.cat ..=>3|.alt ..=>4|.star _=>5|.plus _=>6|.opt _=>7
def wbh(e:E):AtT (post e) 0 e (post e).length:=⟨[],[],V,rfl,V⟩
def AtT.bound{l:Wam Rx}{s t:Nat}{e:E}(h:AtT l s e t):s<t/\t<=l.length:=by obtain⟨a,b,rfl,rfl,rfl⟩:=h;have:=zi5 e;grind
def jmn(e:E):(post e).getLast?=some (match e with|.set a b c d=>⟨1,a,b,c,d⟩|e=>Qq (zz e)):=by cases e<;>simp[post,zz]
def AtT.kind{l:Wam Rx}{s t:Nat}{e:E}(h:AtT l s e t)(j:Nat)(f:j<l.length)(g:j+1=t):l[j].kind=zz e:=by obtain⟨a,b,rfl,rfl,rfl⟩:=h;have i:=zi5 e;have d:=jmn e;rw[List.getLast?_eq_getElem?]at d;have c:(a++post e++b)[j]?=(post e)[(post e).length-1]?:=by{grind};rw[d,wch f,wdn]at c;rw[c];cases e<;>rfl
def AtT.cat{l:Wam Rx}{s t:Nat}{a b:E}(h:AtT l s (.cat a b) t):∃m,AtT l s a m/\AtT l m b (t-1)/\s<m/\m<t-1:=by obtain⟨c,d,rfl,rfl,rfl⟩:=h;have:=zi5 a;have:=zi5 b;refine⟨c.length+(post a).length,⟨c,post b++[Qq 3]++d,by simp[post],rfl,rfl⟩,⟨c++post a,[Qq 3]++d,by simp[post],V,by simp[post];omega⟩,U,by simp[post];omega⟩
def AtT.alt{l:Wam Rx}{s t:Nat}{a b:E}(h:AtT l s (.alt a b) t):∃m,AtT l s a m/\AtT l m b (t-1)/\s<m/\m<t-1:=by obtain⟨c,d,rfl,rfl,rfl⟩:=h;have:=zi5 a;have:=zi5 b;refine⟨c.length+(post a).length,⟨c,post b++[Qq 4]++d,by simp[post],rfl,rfl⟩,⟨c++post a,[Qq 4]++d,by simp[post],V,by simp[post];omega⟩,U,by simp[post];omega⟩
def AtT.star{l:Wam Rx}{s t:Nat}{a:E}(h:AtT l s (.star a) t):AtT l s a (t-1):=by obtain⟨b,c,rfl,rfl,rfl⟩:=h;exact⟨b,[Qq 5]++c,by simp[post],rfl,by simp[post]⟩
def AtT.plus{l:Wam Rx}{s t:Nat}{a:E}(h:AtT l s (.plus a) t):AtT l s a (t-1):=by obtain⟨b,c,rfl,rfl,rfl⟩:=h;exact⟨b,[Qq 6]++c,by simp[post],rfl,by simp[post]⟩
def AtT.opt{l:Wam Rx}{s t:Nat}{a:E}(h:AtT l s (.opt a) t):AtT l s a (t-1):=by obtain⟨b,c,rfl,rfl,rfl⟩:=h;exact⟨b,[Qq 7]++c,by simp[post],rfl,by simp[post]⟩
def numL(l:List Rx)(i:Nat):Nat:=((l.take i).filter λx=>x.kind == 1).length
def jlj(l:Wam Rx)(k:Nat)(h:k<l.length):numL l (k+1)=numL l k+if l[k].kind=1 then 1 else 0:=by unfold numL;rw[wcp h,we9,wc4];grind
def jil(l:Wam Rx)(k:Nat):numL l k<=k:=by unfold numL;grind
def AtT.num{l:Wam Rx}{s t:Nat}{e:E}(h:AtT l s e t):numL l t=numL l s+jv e:=by obtain⟨a,b,rfl,rfl,rfl⟩:=h;unfold numL;rw[<- z45,<- zpr,wc2,List.take_left,<- wc2,wfj V,we9,wc4]
def subs:E->Int->List (E×Int)
 |.set a b c d,n=>[(.set a b c d,n)]
 |.empty,n=>[(.empty,n)]
 |.cat a b,n=>subs a n++(subs b (n+jv a)++[(.cat a b,n)])
 |.alt a b,n=>subs a n++(subs b (n+jv a)++[(.alt a b,n)])
 |.star a,n=>subs a n++[(.star a,n)]
 |.plus a,n=>subs a n++[(.plus a,n)]
 |.opt a,n=>subs a n++[(.opt a,n)]
def yx(e:E):∀n,(subs e n).length=(post e).length:=by induction e<;>intro n<;>simp_all [subs,post]
def zai:E->Int->Int->Int->Bool
 |.cat x y,n,i,j=>decide (i∈vn x n) && decide (j∈qj y (n+jv x))
 |.star x,n,i,j=>decide (i∈vn x n) && decide (j∈qj x n)
 |.plus x,n,i,j=>decide (i∈vn x n) && decide (j∈qj x n)
 |_,_,_,_=>false
def zi2(e:E)(n i j:Int):Bool:=(subs e n).any λx=>zai x.1 x.2 i j
def jl1(a b:E)(n i j:Int):zai (.cat a b) n i j=true↔(i∈vn a n/\j∈qj b (n+jv a)):=by simp[zai]
def jei(a:E)(n i j:Int):zai (.star a) n i j=true↔(i∈vn a n/\j∈qj a n):=by simp[zai]
def jd6(a:E)(n i j:Int):zai (.plus a) n i j=true↔(i∈vn a n/\j∈qj a n):=by simp[zai]
def zmf{α:Type}(l:Wam α)(x:α)(p:α->Bool):(l++[x]).any p=true↔l.any p=true\/p x=true:=V
def jh6{α:Type}(l m:Wam α)(p:α->Bool):(l++m).any p=true↔l.any p=true\/m.any p=true:=V
def jat(e:E):∀n i j,zi2 e n i j=true↔za4 e n i j:=by induction e with|set=>{intro n i j;simp[zi2,subs,zai,za4]}|empty=>{intro n i j;simp[zi2,subs,zai,za4]}|cat a b c d=>{intro n i j;unfold zi2 subs za4;rw[jh6,zmf,jl1];exact or_congr (c n i j) (or_congr (d _ i j) Iff.rfl)}|alt a b c d=>{intro n i j;unfold zi2 subs za4;rw[jh6,zmf];refine or_congr (c n i j) ?_;rw[show zai (E.alt a b) n i j=false from rfl,wdr,or_false];exact d _ i j}|star a c=>{intro n i j;unfold zi2 subs za4;rw[zmf,jei];exact or_congr (c n i j) Iff.rfl}|plus a c=>{intro n i j;unfold zi2 subs za4;rw[zmf,jd6];exact or_congr (c n i j) Iff.rfl}|opt a c=>intro n i j;unfold zi2 subs za4;rw[zmf,show zai (E.opt a) n i j=false from rfl,wdr,or_false];exact c n i j
def ju1(l:Wam Rx)(e:E):∀s t,AtT l s e t->∀k x,(subs e (numL l s))[k]?=some x->∃r,AtT l r x.1 (s+k+1)/\(numL l r:Int)=x.2:=by
 induction e with
 |set a b c d=>
  intro s t h k x f;have w:=h;obtain⟨D,F,_,rfl,rfl⟩:=w;match k,f with
  |0,f=>simp[subs]at f;subst f;exact⟨_,by assumption,rfl⟩
  |k+1,f=>trivial
 |empty=>
  intro s t h k x f;have w:=h;obtain⟨D,F,_,rfl,rfl⟩:=w;match k,f with
  |0,f=>simp[subs]at f;subst f;exact⟨_,by assumption,rfl⟩
  |k+1,f=>trivial
 |cat a b g o=>
  intro s t h k x f;obtain⟨m,i,n,C,A⟩:=h.cat;have B:=i.num;have v:(post a).length=m-s:=by{obtain⟨_,_,_,rfl,rfl⟩:=i;omega};have G:(post b).length=t-1-m:=by{obtain⟨_,_,_,j,p⟩:=n;omega};simp[subs]at f;by_cases j:k<(post a).length;{rw[wcx (by rw[yx];omega)]at f;exact g s m i k x f}
  .rw[wcz (by rw[yx];omega),yx]at f;by_cases p:k-(post a).length<(post b).length;{rw[wcx (by rw[yx];omega)]at f;obtain⟨r,y,z⟩:=o m (t-1) n _ x (by rw[B];assumption);exact⟨r,by rw[show s+k+1=m+(k-(post a).length)+1 from by omega];exact y,z⟩}
   .rw[wcz (by rw[yx];omega),yx]at f;match u:k-(post a).length-(post b).length,f with
    |0,f=>simp at f;subst f;exact⟨s,by rw[show s+k+1=t from by omega];exact h,rfl⟩
    |q+1,f=>simp at f
 |alt a b g o=>
  intro s t h k x f;obtain⟨m,i,n,C,A⟩:=h.alt;have B:=i.num;have v:(post a).length=m-s:=by{obtain⟨_,_,_,rfl,rfl⟩:=i;omega};have G:(post b).length=t-1-m:=by{obtain⟨_,_,_,j,p⟩:=n;omega};simp[subs]at f;by_cases j:k<(post a).length;{rw[wcx (by rw[yx];omega)]at f;exact g s m i k x f}
  .rw[wcz (by rw[yx];omega),yx]at f;by_cases p:k-(post a).length<(post b).length;{rw[wcx (by rw[yx];omega)]at f;obtain⟨r,y,z⟩:=o m (t-1) n _ x (by rw[B];assumption);exact⟨r,by rw[show s+k+1=m+(k-(post a).length)+1 from by omega];exact y,z⟩}
   .rw[wcz (by rw[yx];omega),yx]at f;match u:k-(post a).length-(post b).length,f with
    |0,f=>simp at f;subst f;exact⟨s,by rw[show s+k+1=t from by omega];exact h,rfl⟩
    |q+1,f=>simp at f
 |star a g=>
  intro s t h k x f;have i:=h.star;have n:=h.bound;have v:(post a).length=t-1-s:=by{obtain⟨_,_,_,j,p⟩:=i;omega};simp[subs]at f;by_cases j:k<(post a).length;{rw[wcx (by rw[yx];omega)]at f;exact g s (t-1) i k x f}
  .rw[wcz (by rw[yx];omega),yx]at f;match u:k-(post a).length,f with
   |0,f=>simp at f;subst f;exact⟨s,by rw[show s+k+1=t from by omega];exact h,rfl⟩
   |q+1,f=>simp at f
 |plus a g=>
  intro s t h k x f;have i:=h.plus;have n:=h.bound;have v:(post a).length=t-1-s:=by{obtain⟨_,_,_,j,p⟩:=i;omega};simp[subs]at f;by_cases j:k<(post a).length;{rw[wcx (by rw[yx];omega)]at f;exact g s (t-1) i k x f}
  .rw[wcz (by rw[yx];omega),yx]at f;match u:k-(post a).length,f with
   |0,f=>simp at f;subst f;exact⟨s,by rw[show s+k+1=t from by omega];exact h,rfl⟩
   |q+1,f=>simp at f
 |opt a g=>
  intro s t h k x f;have i:=h.opt;have n:=h.bound;have v:(post a).length=t-1-s:=by{obtain⟨_,_,_,j,p⟩:=i;omega};simp[subs]at f;by_cases j:k<(post a).length;{rw[wcx (by rw[yx];omega)]at f;exact g s (t-1) i k x f}
  .rw[wcz (by rw[yx];omega),yx]at f;match u:k-(post a).length,f with
   |0,f=>simp at f;subst f;exact⟨s,by rw[show s+k+1=t from by omega];exact h,rfl⟩
   |q+1,f=>simp at f
end
end Go.Proofs.YtiafpechgjopfaaGreatDoor
namespace Go.Proofs.YtiafpechgjopfaaGreatDoor.T
noncomputable section
open _root_.Go.Proofs.Tryz
set_option maxRecDepth 100000
set_option maxHeartbeats 8000000
set_option linter.unusedVariables false
set_option linter.unusedSimpArgs false
set_option linter.defProp false
open List (replicate range)
open Go Go.RowKit L
def qt(x:jh):Rx:=⟨x.1,x.2.1.l.getD 0 0,x.2.1.l.getD 1 0,x.2.1.l.getD 2 0,x.2.1.l.getD 3 0⟩
def ju7{c:Int}{n:Nat}(h:arK c=some n):ofK c=n:=by unfold arK at h;unfold ofK;grind
def jje{x:jh}(h:¬(x.1≠1/\x.2.1.l≠replicate 4 0))(a:x.1≠1):qt x=Qq x.1:=by have:=Classical.byContradiction λc=>h ⟨a,c⟩;unfold qt Qq;grind
def jci:∀l d,zbt l d=0->zdj (l.map qt) (d:Int)=0
 |[],d,h=>by unfold zbt at h;by_cases e:d=1;{subst e;rfl};omega
 |x::l,d,h=>by unfold zbt at h;cases a:arK x.1 with|none=>{grind}|some n=>rw[a]at h;dsimp only at h;split at h;{omega};.split at h;{omega};.rename_i f j;have i:=ju7 a;have k:=jci l _ h;rw[wc7,zdj];have c:(qt x).kind=x.1:=rfl;rw[c,i,if_neg,if_neg U];{grind};.rintro(b|⟨b,g⟩);{omega};.rw[jje f b]at g;trivial
def jwh{l:Wam jh}(h:Y3 l=0):l.length<=512/\∃e,l.map qt=post e:=by have a:=V8 h;refine⟨a.2,?_⟩;unfold Y3 at h;rw[if_neg U]at h;exact(js2 _ (by unfold jgb;rw[if_neg (by have:=a.2;grind)];exact jci l 0 h)).2
def Ja(l:List jh):W9:=(l.filter λx=>decide (x.1=1)).map λx=>x.2.1
def zyc(l:Wam jh)(x:jh):Ja (l++[x])=Ja l++if x.1=1 then [x.2.1]else []:=by unfold Ja;grind
def z9o(l:Wam jh):((l.map qt).filter λx=>x.kind == 1).length=(Ja l).length:=by unfold Ja;rw[List.filter_map,wc0,wc0];rfl
def jmg{l:Wam jh}{e:E}(h:l.map qt=post e):(Ja l).length=jv e:=by rw[<- z9o,h,zpr,z45]
def jkp(st:List E)(x:Rx):List E:=
 if x.kind=1 then .set x.s0 x.s1 x.s2 x.s3::st else if x.kind=2 then .empty::st else match st with
 |[]=>[]
 |b::r=>if x.kind=5 then .star b::r else if x.kind=6 then .plus b::r else if x.kind=7 then .opt b::r else match r with
  |[]=>[]
  |a::r=>if x.kind=3 then .cat a b::r else .alt a b::r
def z4z(e:E):∀st,(post e).foldl jkp st=e::st:=by induction e with|set=>{intro st;rfl}|empty=>{intro st;rfl}|cat a b c d=>{intro st;simp[post,wd7,c,d,jkp,Qq]}|alt a b c d=>{intro st;simp[post,wd7,c,d,jkp,Qq]}|star a f=>{intro st;simp[post,wd7,f,jkp,Qq]}|plus a f=>{intro st;simp[post,wd7,f,jkp,Qq]}|opt a f=>intro st;simp[post,wd7,f,jkp,Qq]
def jn4{a b:E}(h:post a=post b):a=b:=by have c:=z4z a [];rw[h,z4z b []]at c;grind
open Classical in
def qr(l:List jh):E:=if h:∃e,l.map qt=post e then h.choose else .empty
def jdm{l:Wam jh}{e:E}(h:l.map qt=post e):qr l=e:=by
 have a:∃e,l.map qt=post e:=⟨e,h⟩
 unfold qr;rw[dif_pos a];exact jn4 (a.choose_spec.symm.trans h)
def zlj{l:Wam jh}(h:Y3 l=0):l.map qt=post (qr l):=by obtain⟨e,a⟩:=(jwh h).2;rw[jdm a];omega
def vg:List E->Nat
 |[]=>0
 |e::r=>jv e+vg r
def yr:∀a b,vg (a++b)=vg a+vg b
 |[],b=>by simp[vg]
 |e::a,b=>by simp[vg,yr a b];omega
def J0(e:E)(n:Int):qy:=((qj e n,vn e n,yi e,()),(jv e:Int),())
def Jz:List E->Int->List qy
 |[],_=>[]
 |e::r,n=>J0 e n::Jz r (n+jv e)
def zbk:∀a b n,Jz (a++b) n=Jz a n++Jz b (n+vg a)
 |[],b,n=>by simp[Jz,vg]
 |e::a,b,n=>by simp[wdw,Jz,zbk a b,vg,wex];grind
def zdq:∀a n,(Jz a n).length=a.length
 |[],n=>rfl
 |e::a,n=>by simp[Jz,zdq a]
def zrb:List E->Int->Int->Int->Prop
 |[],_,_,_=>False
 |e::r,n,i,j=>za4 e n i j\/zrb r (n+jv e) i j
def zem:∀a b n i j,zrb (a++b) n i j↔zrb a n i j\/zrb b (n+vg a) i j
 |[],b,n,i,j=>by simp[zrb,vg]
 |e::a,b,n,i,j=>by simp[wdw,zrb,zem a b,vg,wex];grind
def ze0(e:E)(n i j:Int):zrb [e] n i j↔za4 e n i j:=by simp[zrb]
def z6c:∀a n i j,zrb a n i j->(n<=i/\i<n+vg a)/\n<=j/\j<n+vg a
 |[],n,i,j,h=>h.elim
 |e::a,n,i,j,h=>by simp[vg];rcases h with h|h;{have:=jfa e n i j h;omega};.have:=z6c a _ i j h;omega
def FolOk(fol:W7)(P:Int->Int->Prop):Prop:=∀(i:Nat)(l:Wa),fol[i]?=some l->jx l/\∀j,j∈l↔P i j
def FolOk.iff{fol:W7}{P Q:Int->Int->Prop}(h:FolOk fol P)(b:∀i j,P i j↔Q i j):FolOk fol Q:=λi l a=>⟨(h i l a).1,λj=>((h i l a).2 j).trans (b i j)⟩
def zll(a:List E):List Rx:=a.flatMap post
def z5e(a b:Wam E):zll (a++b)=zll a++zll b:=by simp[zll]
def zso(a:E):zll [a]=post a:=by simp[zll]
def zen(e:E)(n m:Nat)(h:n+jv e<=m):RN m (qj e n):=⟨(V6 e n).1,λx a=>by have:=(V6 e n).2 x a;omega⟩
def zju(e:E)(n m:Nat)(h:n+jv e<=m):RN m (vn e n):=⟨(zb2 e n).1,λx a=>by have:=(zb2 e n).2 x a;omega⟩
def jqq{u a b:Wa}{m:Int}(g:jx u)(hm:∀x,x∈u↔x∈a\/x∈b)(e:zkq a)(f:zkq b)(c:∀x∈a,x<m)(d:∀x∈b,m<=x):u=a++b:=
 jaq g (zb6 e f c d) λx=>by rw[hm,wcu]
def z4k{u:Wa}{a b:E}{n:Int}(d:jx u)(hm:∀x,x∈u↔x∈qj a n\/x∈qj b (n+jv a)):u=qj a n++qj b (n+jv a):=
 jqq d hm (V6 a n).1 (V6 b _).1 (λx c=>((V6 a n).2 x c).2) λx c=>((V6 b _).2 x c).1
def jcw{u:Wa}{a b:E}{n:Int}(d:jx u)(hm:∀x,x∈u↔x∈vn a n\/x∈vn b (n+jv a)):u=vn a n++vn b (n+jv a):=
 jqq d hm (zb2 a n).1 (zb2 b _).1 (λx c=>((zb2 a n).2 x c).2) λx c=>((zb2 b _).2 x c).1
def z0k(e:E)(i:Int):Wa:=((range (jv e)).map λ(b:Nat)=>(b:Int)).filter λb=>zi2 e 0 i b
def z4g(e:E)(i:Int):jx (z0k e i):=by unfold z0k;refine we1 List.filter_sublist ?_;rw[List.pairwise_map];exact List.pairwise_lt_range.imp λh=>U
def z94(e:E)(i j:Int):j∈z0k e i↔za4 e 0 i j:=by simp[z0k,wey,wc6,weq];constructor;{rintro⟨_,h⟩;exact(jat e _ _ _).1 h};.intro h;have:=(jfa e _ _ _ h).2;exact⟨⟨j.toNat,U,U⟩,(jat e _ _ _).2 h⟩
def ju3{e:E}{i:Int}{l:Wa}(a:jx l)(h:∀j,j∈l↔za4 e 0 i j):l=z0k e i:=jaq a (z4g e i) λj=>by rw[h,z94]
def z84(e:E)(i:Int):RN (jv e) (z0k e i):=⟨z4g e i,λx a=>by have:=(jfa e _ _ _ ((z94 e i x).1 a)).2;omega⟩
def z07{n:Nat}{a b:Wa}(o:n<=1000)(c:RN n a)(d:RN n b):Tn (λi=>Jg i a b) (λr=>RN n r/\∀x,x∈r↔x∈a\/x∈b):=by have l:=c.len;have m:=d.len;unfold Jg;refine wac _ (sm7 U) (wac _ (yp U U) ?_);have f:(zeg (a++b)).length=(a++b).length:=zpn _;simp[wc4]at f;refine wac _ (sm7 X) (wac _ (sm7 U) (Tt.pure ?_));obtain⟨j,k⟩:=zn6 (zeg (a++b)) (zjf _);have e:∀x,x∈Zi (zeg (a++b))↔x∈a\/x∈b:=λx=>by{rw[k,z4r,wcu]};refine⟨⟨j,λx g=>?_⟩,e⟩;rcases(e x).1 g with h|h;{exact c.b x h};.exact d.b x h
def z32{ι:Type}{D:Fi ι}{φ:ι->Nat}(hφ:Big D φ){n:Nat}(hn:n<=512){β:Type}{Q:β->Prop}{p ls:Wa}(S:RN n p)(Y:RN n ls)(v:Bool)(w:Int)(sets:W9)(y A:Wa){fol:W7}(Z:fol.length=n){P:Int->Int->Prop}(J:FolOk fol P)(hP:∀i j,P i j->0<=j/\j<n)
  {K:ι->Wa×Wa×Int×Int×Bool×Int×W9×W7×Wa×Wa->Wal β}
  (hK:∀d,d.length=n->FolOk d (λi j=>P i j\/i∈ls/\j∈p)->Tt D (λi=>K i (p,ls,(ls.length:Int),(ls.length:Int),v,w,sets,d,y,A)) Q) :
  Tt D (λi=>jm (λ(a:Wa×Wa×Int×Int×Bool×Int×W9×W7×Wa×Wa)H=>ifB (decide (a.2.2.2.1<a.2.2.1)) (ja (atL a.2.1 a.2.2.2.1) λq=>ja (jq a.2.2.2.2.2.2.2.1.length q) λI=>ja (atL a.2.2.2.2.2.2.2.1 I) λL=>ja (Jg (φ i) L a.1) λM=>ja (jq a.2.2.2.2.2.2.2.1.length q) λN=>ja (yy a.2.2.2.2.2.2.2.1 N M) λO=>ja (some (T.w64 (a.2.2.2.1+1))) λR=>H (a.1,a.2.1,a.2.2.1,R,a.2.2.2.2.1,a.2.2.2.2.2.1,a.2.2.2.2.2.2.1,O,a.2.2.2.2.2.2.2.2.1,a.2.2.2.2.2.2.2.2.2)) (K i a)) (φ i) (p,ls,(ls.length:Int),0,v,w,sets,fol,y,A)) Q:=by
 have a2:=Y.len;refine Tt.loop (λm s=>∃(k:Nat)(d:W7),k<=ls.length/\m=ls.length-k/\s=(p,ls,(ls.length:Int),(k:Int),v,w,sets,d,y,A)/\d.length=n/\FolOk d (λi j=>P i j\/i∈ls.take k/\j∈p)) ls.length hφ ⟨0,fol,U,Wab,rfl,Z,J.iff λi j=>V⟩ λm s⟨k,d,hk,hm,hs,h3,t⟩ nx C=>?_;subst hs;dsimp only;refine wab (λc=>?_) (λc=>?_)
 ·have c:=wcj c;have o:k<ls.length:=U;have hb:=Y.b _ (wcm o);obtain⟨z,hz⟩:∃z:Nat,ls[k]=(z:Int):=⟨(ls[k]).toNat,U⟩
  have f:z<d.length:=U;refine wac _ (atN o) ?_;have G:ls.take (k+1)=ls.take k++[(z:Int)]:=by rw[wcp o,hz]
  rw[hz];refine wac _ (yj f) (wac _ (atN f) ?_);obtain⟨q1,q2⟩:=t z _ (wch f);have F:RN n d[z]:=⟨q1,λx hx=>by
   rcases(q2 x).1 hx with h|h
   ·grind
   ·exact S.b _ h.2⟩
  refine Waj (z07 U F S) hφ.fst λu⟨hu,a5⟩=>(wac _ (yj f) (wac _ (zr u f) (Tt.b1 ?_)))
  rw[wI U U];refine C (ls.length-(k+1)) _ U ⟨k+1,d.set z u,U,rfl,V,X,λi l g=>?_⟩;rw[G];by_cases e:z=i
  ·subst e;rw[wen f]at g;cases g;refine⟨hu.r,λj=>?_⟩
   grind
  ·rw[wev e]at g;obtain⟨q3,q4⟩:=t i l g
   grind
 ·have c:=wck c;have B:k=ls.length:=U;subst B;rw[wc8]at t;exact(hK d h3 t).fst
structure jqb(l:List jh)(k:Nat)(es:List E)(sets:List (Arr 4 Int))(fol:List (List Int)):Prop where
 fl:zll es=(l.take k).map qt
 se:sets=Ja (l.take k)
 ls:sets.length=vg es
 lf:fol.length=vg es
 fo:FolOk fol (zrb es 0)
 ch:zbt (l.drop k) es.length=0
 nk:vg es<=k
structure OvX(l:List jh)(k:Nat)(s:OvS)(b:Bool)(z:Int)(es:List E)(e:E)(sets:List (Arr 4 Int))(fol:List (List Int))(f1 l1:List Int):Prop where
 h1:s=(l,(l.length:Int),(k:Int),b,z,J0 e (vg es),sets,fol,f1,l1,Jz es 0)
 h2:jqb l (k+1) (es++[e]) sets fol
theorem js9(l:List jh)(hc:Y3 l=0):Tn (λnn=>Yb nn l) (λr=>∃e fol,l.map qt=post e/\r=some (Ja l,fol,J0 e 0,())/\fol.length=jv e/\FolOk fol (za4 e 0)):=by
 have hW:=(V8 hc).2;unfold Yb;refine Waj (jf1 l (by omega)) waa λe he=>?_;rw[hc]at he;subst he;refine wae rfl ?_;have h0:zbt l 0=0:=by unfold Y3 at hc;omega
 refine Tt.loop (λm s=>∃(k:Nat)(H:List E)(b:Bool)(z:Int)(sets:List (Arr 4 Int))(fol:List (List Int))(f1 l1:List Int),k<=l.length/\m=l.length-k/\s=(l,(l.length:Int),(k:Int),b,z,sets,fol,f1,l1,Jz H 0)/\jqb l k H sets fol/\H.length<=k) l.length waa ⟨0,[],_,_,_,_,_,_,by omega,by omega,rfl,⟨rfl,rfl,rfl,rfl,λi l h=>by simp at h,h0,by trivial⟩,by simp⟩ λm s⟨k,H,b,z,sets,fol,f1,l1,hk,hm,N,F,I⟩ nx e3=>?_;subst N;dsimp only;have f6:=zdq H 0;refine wab (λc=>?_) (λc=>?_)
 ·have c:=wcj c;have a2:k<l.length:=by omega
  have g:=F.ch;have b6:=F.nk;have B:=F.ls;have A:=F.lf;rw[wcw a2]at g;have L:(l.take (k+1)).map qt=zll H++[qt l[k]]:=by rw[wcp a2,wdb,F.fl];rfl
  have G:Ja (l.take (k+1))=sets++if(l[k]).1=1 then [(l[k]).2.1]else []:=by rw[wcp a2,zyc,F.se]
  refine wac _ (atN a2) ?_;generalize l[k]=x at g L G⊢;unfold zbt at g;cases w:arK x.1 with
  |none=>rw[w]at g;cases g
  |some a=>
  rw[w]at g;dsimp only at g;split at g
  ·cases g
  rename_i b4;split at g
  ·cases g
  rename_i P;refine Tt.J (λs=>∃b z es' e sets fol f1 l1,OvX l k s b z es' e sets fol f1 l1/\es'.length<=k) (λny e4=>?_) (λs⟨b,z,es',e,sets,fol,f1,l1,h,f0⟩=>?_)
  rotate_left
  ·obtain⟨he,h1⟩:=h;subst he;dsimp only;have f2:=zdq es' 0;refine wac _ (yp (by grind) (by omega)) (Tt.b1 ?_);rw[wI (by omega) (by omega)];refine e3 (l.length-(k+1)) _ (by omega) ⟨k+1,es'++[e],b,z,sets,fol,f1,l1,by omega,rfl,?_,h1,by simp;omega⟩;rw[zbk];simp[Jz]
  ·have Q:∀{s:OvS}{b z es' e sets fol f1 l1},OvX l k s b z es' e sets fol f1 l1->es'.length<=k->Tt _ (λi=>ny i s) _:=λh h'=>e4 _ ⟨_,_,_,_,_,_,_,_,h,h'⟩;refine wab (λc=>?_) (λc1=>?_)
   ·have c:=wcj c;have d:a=0:=by rw[c]at w;cases w;rfl
    subst d;rw[if_pos c]at G;refine Tt.b1 (wac _ (yp (by grind) (by omega)) (wac _ (yp (by grind) (by omega)) ?_));refine Q (b:=b) (z:=z) (sets:=sets++[x.2.1]) (fol:=fol++[[]]) (f1:=f1) (l1:=l1) (es':=H) (e :=.set (x.2.1.l.getD 0 0) (x.2.1.l.getD 1 0) (x.2.1.l.getD 2 0) (x.2.1.l.getD 3 0)) ⟨by rw[B];simp[J0,qj,vn,yi,jv],⟨?_,G.symm,?_,?_,?_,?_,?_⟩⟩ I
    ·rw[L,z5e,zso];simp[post,qt,c]
    ·rw[wc4,B,yr];rfl
    ·rw[wc4,A,yr];rfl
    ·intro i l hi;by_cases d8:i<fol.length
     ·rw[wcx d8]at hi;obtain⟨q1,q2⟩:=F.fo i l hi;exact⟨q1,λj=>by rw[q2,zem,ze0];simp[za4]⟩
     ·rw[wcz (by omega)]at hi;obtain⟨hz,rfl⟩:i-fol.length=0/\[]=l:=by
       cases hq:i-fol.length with
       |zero=>rw[hq]at hi;simp at hi;exact⟨rfl,hi.symm⟩
       |succ q=>rw[hq]at hi;simp at hi
      refine⟨List.Pairwise.nil,λj=>?_⟩;rw[zem,ze0];simp only[List.not_mem_nil,za4,or_false,false_iff];intro h;have:=z6c _ _ _ _ h;omega
    ·rw[wc4,wdc];exact g
    ·rw[yr];simp[vg,jv];omega
   have c1:=wck c1;rw[if_neg c1,wc1]at G;have d5:=jje b4 c1;rw[d5]at L;refine wab (λc=>?_) (λc2=>?_)
   ·have c:=wcj c;have d:a=0:=by rw[c]at w;cases w;rfl
    subst d;refine Q (b:=b) (z:=z) (sets:=sets) (fol:=fol) (f1:=f1) (l1:=l1) (es':=H) (e :=.empty) ⟨by rfl,⟨?_,G.symm,?_,?_,?_,?_,?_⟩⟩ I
    ·rw[L,z5e,zso,c];rfl
    ·rw[B,yr];rfl
    ·rw[A,yr];rfl
    ·exact F.fo.iff λi j=>by rw[zem,ze0];simp[za4]
    ·rw[wc4,wdc];exact g
    ·rw[yr];simp[vg,jv];omega
   have c2:=wck c2;have D:∀i j,zrb H 0 i j->0<=j/\j<(vg H:Int):=λi j h=>by have:=z6c _ _ _ _ h;omega
   refine wab (λc=>?_) (λc3=>?_)
   ·have ck:=wcj c;have d:a=2:=by rw[ck]at w;cases w;rfl
    subst d;obtain⟨e1,o,rfl⟩:=zz8 (l:=H) (by omega);rw[wc4,wdc]at P I g;obtain⟨f,d,rfl⟩:=zz8 (l:=e1) (by omega);rw[wc4,wdc]at P I g;have R:vg (f++[d]++[o])=vg f+jv d+jv o:=by simp[yr,vg];omega
    have S:Jz (f++[d]++[o]) 0=Jz f 0++[J0 d (vg f)]++[J0 o ((vg f:Nat)+(jv d:Nat):Int)]:=by
     rw[zbk,zbk,yr];simp[Jz,vg]
    have a8:=zdq f 0;rw[R]at B A b6 D;rw[S];refine wac _ (jmx (by simp;omega)) (wac _ jnq (wac _ (jo4 (by simp;omega)) ?_));refine wac _ (jmx (by omega)) (wac _ jnq (wac _ (jo4 (by omega)) ?_));have O:RN (vg f+jv d+jv o) (qj d (vg f)):=zen _ _ _ (by omega);have M:RN (vg f+jv d+jv o) (vn d (vg f)):=zju _ _ _ (by omega);have a1:RN (vg f+jv d+jv o) (qj o ((vg f:Nat)+(jv d:Nat):Int)):=by have:=zen o (vg f+jv d) (vg f+jv d+jv o) (by omega);simpa using this
    have b2:RN (vg f+jv d+jv o) (vn o ((vg f:Nat)+(jv d:Nat):Int)):=by have:=zju o (vg f+jv d) (vg f+jv d+jv o) (by omega);simpa using this
    refine z32 waa.fst (n:=vg f+jv d+jv o) (by omega) a1 M _ _ _ _ _ A F.fo (λi j h=>by have:=D i j h;omega) λp e1 b0=>?_;have b3:FolOk p (zrb (f++[.cat d o]) 0):=b0.iff λi j=>by
     simp only[zem,ze0,yr,vg,za4,wd9,wex,Int.zero_add];constructor
     ·rintro(((h|h)|h)|h)
      ·exact .inl h
      ·exact .inr (.inl h)
      ·exact .inr (.inr (.inl h))
      ·exact .inr (.inr (.inr h))
     ·rintro(h|h|h|h)
      ·exact .inl (.inl (.inl h))
      ·exact .inl (.inl (.inr h))
      ·exact .inl (.inr h)
      ·exact .inr h
    have hR:jqb l (k+1) (f++[.cat d o]) sets p:=⟨by rw[L,ck];simp[zll,post],G.symm,by rw[B,yr];simp[vg,jv];omega,by rw[e1,yr];simp[vg,jv];omega,b3,by rw[wc4,wdc];rw[show f.length+1+1-2+1=f.length+1 by omega]at g;exact g,by rw[yr];simp[vg,jv];omega⟩
    have ew:T.w64 ((jv d:Int)+(jv o:Int))=(jv d:Int)+(jv o:Int):=wI (by omega) (by omega);have e6:Tt _ (λi=>ny i (l,(l.length:Int),(k:Int),b,z,J0 (.cat d o) (vg f),sets,p,f1,l1,Jz f 0)) _:=Q ⟨rfl,hR⟩ (by omega);refine Tt.J (λs=>s=(b,z,sets,p,f1,l1,J0 d (vg f),J0 o ((vg f:Nat)+(jv d:Nat):Int),false,0,((qj d (vg f),vn o ((vg f:Nat)+(jv d:Nat):Int),yi d && yi o,()),((jv d:Int)+(jv o:Int)),()),[],[])) (λnz t=>?_) (λs N=>?_)
    ·dsimp only[J0];rw[ew];refine wab (λy=>t _ ?_) λy=>t _ ?_
     ·simp only[J0,y,weu]
     ·simp only[J0,y,Bool.false_and]
    ·subst N;refine Tt.J (λs=>s=(b,z,sets,p,f1,l1,J0 d (vg f),J0 o ((vg f:Nat)+(jv d:Nat):Int),false,0,((qj (.cat d o) (vg f),vn o ((vg f:Nat)+(jv d:Nat):Int),yi d && yi o,()),((jv d:Int)+(jv o:Int)),()),[],[])) (λnz t=>?_) (λs N=>?_)
     ·dsimp only[J0];refine wab (λy=>?_) λy=>t _ ?_
      ·refine Waj (z07 (by omega) O a1) waa.fst λu⟨hu,Y⟩=>t _ ?_;rw[z4k hu.r Y];simp only[qj,y,if_true,J0]
      ·simp only[qj,y,J0];simp
     ·subst N;refine Tt.J (λs=>s=(b,z,sets,p,f1,l1,false,0,J0 (.cat d o) (vg f),[],[])) (λnz t=>?_) (λs N=>?_)
      ·dsimp only[J0];refine wab (λb5=>?_) λb5=>t _ ?_
       ·refine Waj (z07 (by omega) M b2) waa.fst λu⟨hu,Y⟩=>t _ ?_;rw[jcw hu.r Y];simp only[vn,b5,if_true,J0,yi,jv,wex]
       ·simp only[vn,b5,J0,yi,jv,wex];simp
      ·subst N;exact e6
   have c3:=wck c3;refine wab (λc=>?_) (λc4=>?_)
   ·have ck:=wcj c;have d:a=2:=by rw[ck]at w;cases w;rfl
    subst d;obtain⟨e1,o,rfl⟩:=zz8 (l:=H) (by omega);rw[wc4,wdc]at P I g;obtain⟨f,d,rfl⟩:=zz8 (l:=e1) (by omega);rw[wc4,wdc]at P I g;have R:vg (f++[d]++[o])=vg f+jv d+jv o:=by simp[yr,vg];omega
    have S:Jz (f++[d]++[o]) 0=Jz f 0++[J0 d (vg f)]++[J0 o ((vg f:Nat)+(jv d:Nat):Int)]:=by
     rw[zbk,zbk,yr];simp[Jz,vg]
    have a8:=zdq f 0;rw[R]at B A b6 D;rw[S];refine wac _ (jmx (by simp;omega)) (wac _ jnq (wac _ (jo4 (by simp;omega)) ?_));refine wac _ (jmx (by omega)) (wac _ jnq (wac _ (jo4 (by omega)) ?_));have O:RN (vg f+jv d+jv o) (qj d (vg f)):=zen _ _ _ (by omega);have M:RN (vg f+jv d+jv o) (vn d (vg f)):=zju _ _ _ (by omega);have a1:RN (vg f+jv d+jv o) (qj o ((vg f:Nat)+(jv d:Nat):Int)):=by have:=zen o (vg f+jv d) (vg f+jv d+jv o) (by omega);simpa using this
    have b2:RN (vg f+jv d+jv o) (vn o ((vg f:Nat)+(jv d:Nat):Int)):=by have:=zju o (vg f+jv d) (vg f+jv d+jv o) (by omega);simpa using this
    have b3:FolOk fol (zrb (f++[.alt d o]) 0):=F.fo.iff λi j=>by
     simp only[zem,ze0,yr,vg,za4,wd9,wex,Int.zero_add];rw[or_assoc]
    have hR:jqb l (k+1) (f++[.alt d o]) sets fol:=⟨by rw[L,ck];simp[zll,post],G.symm,by rw[B,yr];simp[vg,jv];omega,by rw[A,yr];simp[vg,jv];omega,b3,by rw[wc4,wdc];rw[show f.length+1+1-2+1=f.length+1 by omega]at g;exact g,by rw[yr];simp[vg,jv];omega⟩
    have ew:T.w64 ((jv d:Int)+(jv o:Int))=(jv d:Int)+(jv o:Int):=wI (by omega) (by omega);refine Tt.J (λs=>s=(l,(l.length:Int),(k:Int),b,z,J0 (.alt d o) (vg f),sets,fol,f1,l1,Jz f 0)) (λnz t=>?_) (λs N=>?_)
    ·dsimp only[J0];refine Waj (z07 (by omega) O a1) waa.fst λu⟨hu,Y⟩=>?_;refine Waj (z07 (by omega) M b2) waa.fst λv⟨hv,e5⟩=>?_;rw[ew,z4k hu.r Y,jcw hv.r e5];refine wab (λy=>t _ ?_) λy=>t _ ?_
     ·simp only[J0,qj,vn,yi,jv,y,wex,Bool.true_or]
     ·simp only[J0,qj,vn,yi,jv,y,wex,Bool.false_or]
    ·subst N;dsimp only;exact Q ⟨rfl,hR⟩ (by omega)
   have c4:=wck c4;have d:a=1/\(x.1=5\/x.1=6\/x.1=7):=by
    rw[arK,if_neg (by omega)]at w;split at w
    ·cases w;exact⟨rfl,by assumption⟩
    ·rw[if_neg (by omega)]at w;cases w
   obtain⟨rfl,b7⟩:=d;obtain⟨f,d,rfl⟩:=zz8 (l:=H) (by omega);rw[wc4,wdc]at P I g;have R:vg (f++[d])=vg f+jv d:=by simp[yr,vg]
   have S:Jz (f++[d]) 0=Jz f 0++[J0 d (vg f)]:=by
    rw[zbk];simp[Jz,vg]
   have a8:=zdq f 0;rw[R]at B A b6 D;rw[S];have O:RN (vg f+jv d) (qj d (vg f)):=zen _ _ _ (by omega);have M:RN (vg f+jv d) (vn d (vg f)):=zju _ _ _ (by omega);refine wac _ (jmx (by omega)) (wac _ jnq (wac _ (jo4 (by omega)) ?_));obtain⟨Z,d7,C,a3,a4,c0⟩:∃Z,post Z=post d++[Qq x.1]/\jv Z=jv d/\(∀n,qj Z n=qj d n)/\(∀n,vn Z n=vn d n)/\(yi Z=(yi d ||decide (x.1≠6)))/\∀n i j,za4 Z n i j↔za4 d n i j\/(x.1≠7/\i∈vn d n/\j∈qj d n):=by
    rcases b7 with h|h|h
    ·exact⟨.star d,by rw[h];rfl,rfl,λ_=>rfl,λ_=>rfl,by simp[yi,h],λn i j=>by simp[za4,h]⟩
    ·exact⟨.plus d,by rw[h];rfl,rfl,λ_=>rfl,λ_=>rfl,by simp[yi,h],λn i j=>by simp[za4,h]⟩
    ·exact⟨.opt d,by rw[h];rfl,rfl,λ_=>rfl,λ_=>rfl,by simp[yi,h],λn i j=>by simp[za4,h]⟩
   obtain⟨a6,a5⟩:=c0;refine Tt.J (λs=>∃p,s=(l,(l.length:Int),(k:Int),b,z,x,J0 d (vg f),sets,p,f1,l1,Jz f 0)/\p.length=vg f+jv d/\FolOk p (zrb (f++[Z]) 0)) (λnz t=>?_) (λs⟨p,N,e0,d4⟩=>?_)
   ·refine wab (λc7=>?_) λc7=>t _ ⟨_,rfl,A,F.fo.iff λi j=>?_⟩
    ·have c7:=wcj c7;refine z32 waa.fst (n:=vg f+jv d) (by omega) O M _ _ _ _ _ A F.fo (λi j h=>by have:=D i j h;omega) λp e1 b0=>t _ ⟨_,rfl,e1,b0.iff λi j=>?_⟩;simp only[zem,ze0,Int.zero_add,a5];rw[or_assoc];simp[c7]
    ·have c7:=wck c7;have c7:x.1=7:=wef.1 c7;simp only[zem,ze0,Int.zero_add,a5];simp[c7]
   ·subst N;have hR:jqb l (k+1) (f++[Z]) sets p:=⟨by rw[L];simp[zll,d7],G.symm,by rw[B,yr];simp[vg,C],by rw[e0,yr];simp[vg,C],d4,by rw[wc4,wdc];rw[show f.length+1-1+1=f.length+1 by omega]at g;exact g,by rw[yr];simp[vg,C];omega⟩
    refine Tt.J (λs=>s=(l,(l.length:Int),(k:Int),b,z,J0 Z (vg f),sets,p,f1,l1,Jz f 0)) (λnz t=>?_) (λs N=>?_)
    ·dsimp only[J0];refine wab (λy=>t _ ?_) λy=>t _ ?_
     ·simp only[J0,a3,a4,C,a6,y,Bool.true_or]
     ·simp only[J0,a3,a4,C,a6,y,Bool.false_or]
    ·subst N;dsimp only;exact Q ⟨rfl,hR⟩ (by omega)
 ·have c:=wck c;have d9:k=l.length:=by omega
  subst d9;have g:=F.ch;rw[wed]at g;unfold zbt at g;have h1:H.length=1:=by
   by_cases h:H.length=1
   ·exact h
   ·rw[if_neg h]at g;cases g
  match H,h1 with
  |[e],_=>
   have c5:=F.fl;rw[wc8,zso]at c5;have c6:=F.se;rw[wc8]at c6;have A:=F.lf;refine wac _ (yj (k:=0) (by simp[Jz])) (wac _ (atN (k:=0) (by simp[Jz])) (Tt.pure ⟨e,fol,c5.symm,by rw[c6];rfl,by rw[A];simp[vg],F.fo.iff λi j=>ze0 e 0 i j⟩))
def Z1{l:Wam jh}{e:E}{s t:Nat}(h:AtT (l.map qt) s e t):∃j,∃b,j+1=t/\(l[j]).1=zz e:=by have a:=h.bound;rw[wc0]at a;refine⟨t-1,U,U,?_⟩;have:=h.kind (t-1) X U;rw[List.getElem_map]at this;trivial
def jor{ι:Type}{D:Fi ι}{φ:ι->Nat}(hφ:Big D φ){rec:ι->(Wam jh)×Int->Wal Int}{l:Wam jh}(t:l.length<=1000){j:Nat}(g:j<l.length){n:Nat}(e:arK (l[j]).1=some n)(P:Nat->Nat)(h0:P 0=j)(f:∀k,P k<=l.length)(b:∀k,k<n->Tt D (λi=>rec i (l,(P k:Int)-1)) (λr=>r=(P (k+1):Int))):Tt D (λi=>zax (φ i) (rec i) l (j:Int)) (λr=>r=(P n:Int)):=by have p:=je5 e;unfold zax;refine Tt.J (λs=>s=(l,(j:Int),false)) (λq a=>?_) λs d=>?_;{refine Tt.b1 (wae (wc3 U) (a _ ?_));grind};.subst d;dsimp only;refine wae rfl (Tt.at g (Waj (jn5 _) hφ λr b=>?_));rw[e]at b;dsimp only at b;subst b;refine Tt.loop (λm s=>∃k,k<=n/\m=n-k/\s=(l,(n:Int),(P k:Int),(k:Int))) n hφ ⟨0,U,Wab,X⟩ λm s⟨k,o,u,d⟩ q a=>?_;subst d;dsimp only;refine wad (λc=>?_) λc=>?_;{have v:=f k;rw[wI U U];refine Tt.bind (b k U).fst λr b=>?_;subst b;refine wae (wc3 U) (wai ?_);exact a (n-(k+1)) _ U ⟨k+1,U,rfl,rfl⟩};.have:k=n:=U;subst this;exact wae (wc3 U) (Tt.pure rfl)
def jlz(n m:Nat)(l:Wam jh)(z:Int):vj n (m+1) (l,z)=zax n (vj n m) l z:=rfl
def jjv(l:Wam jh)(C:l.length<=1000)(e:E):∀s t,AtT (l.map qt) s e t->Tt Fi.two (λi=>vj i.1 i.2 (l,(t:Int)-1)) (λr=>r=(s:Int)):=by have go:∀{e:E}{s t n:Nat}(h:AtT (l.map qt) s e t)(f:arK (zz e)=some n)(P:Nat->Nat),P 0+1=t->P n=s->(∀k,P k<=l.length)->(∀k,k<n->Tt Fi.two (λi=>vj i.1 i.2 (l,(P k:Int)-1)) (λr=>r=(P (k+1):Int)))->Tt Fi.two (λi=>vj i.1 i.2 (l,(t:Int)-1)) (λr=>r=(s:Int)):=λ{e s t n}h f P h0 p q y=>by{obtain⟨j,A,B,u⟩:=Z1 h;obtain rfl:j=P 0:=U;have g:=jor Big.two C A (by rw[u];exact f) P rfl q y;rw[p]at g;have z:(t:Int)-1=(P 0:Int):=U;rw[z];exact zla g λn m=>jlz n m l _};have p:∀{a e:E}{s t:Nat},AtT (l.map qt) s e t->arK (zz e)=some 1->AtT (l.map qt) s a (t-1)->(∀s t,AtT (l.map qt) s a t->Tt Fi.two (λi=>vj i.1 i.2 (l,(t:Int)-1)) (λr=>r=(s:Int)))->Tt Fi.two (λi=>vj i.1 i.2 (l,(t:Int)-1)) (λr=>r=(s:Int)):=λ{a e s t}h f v o=>by{have g:=h.bound;have w:=v.bound;rw[wc0]at g w;refine go h f (λk=>if k=0 then t-1 else s) W V (λk=>by(try dsimp only);split<;>omega) λk u=>?_;obtain rfl:k=0:=U;exact o s (t-1) v};have q:∀{a b e:E}{s t:Nat},AtT (l.map qt) s e t->arK (zz e)=some 2->(∃m,AtT (l.map qt) s a m/\AtT (l.map qt) m b (t-1)/\s<m/\m<t-1)->(∀s t,AtT (l.map qt) s a t->Tt Fi.two (λi=>vj i.1 i.2 (l,(t:Int)-1)) (λr=>r=(s:Int)))->(∀s t,AtT (l.map qt) s b t->Tt Fi.two (λi=>vj i.1 i.2 (l,(t:Int)-1)) (λr=>r=(s:Int)))->Tt Fi.two (λi=>vj i.1 i.2 (l,(t:Int)-1)) (λr=>r=(s:Int)):=λ{a b e s t}h f⟨m,v,g,F,D⟩ c d=>by{have x:=h.bound;rw[wc0]at x;refine go h f (λk=>if k=0 then t-1 else if k=1 then m else s) X V (λk=>X) λk u=>?_;have:k=0\/k=1:=U;rcases this with rfl|rfl;{grind};grind};have h0:∀{e:E}{s t:Nat},AtT (l.map qt) s e t->arK (zz e)=some 0->(post e).length=1->Tt Fi.two (λi=>vj i.1 i.2 (l,(t:Int)-1)) (λr=>r=(s:Int)):=λ{e s t}h f p=>by{have g:=h.bound;rw[wc0]at g;have:t=s+1:=by{obtain⟨_,_,_,_,y⟩:=h;omega};exact go h f (λk=>s) this.symm rfl (λk=>U) λk u=>U};induction e with|set=>{exact λs t h=>h0 h rfl rfl}|empty=>{exact λs t h=>h0 h rfl rfl}|cat a b c d=>{exact λs t h=>q h rfl h.cat c d}|alt a b c d=>{exact λs t h=>q h rfl h.alt c d}|star a o=>{exact λs t h=>p h rfl h.star o}|plus a o=>{exact λs t h=>p h rfl h.plus o}|opt a o=>exact λs t h=>p h rfl h.opt o
def zhd(l:Wam jh)(a:l.length<=1000){e:E}{s t:Nat}(h:AtT (l.map qt) s e t):Tn (λb=>Yv b l ((t:Int)-1)) (λr=>r=(s:Int)):=zl1 (jjv l a e s t h)
def jlw(l:Wam jh)(o:l.length<=1000)(j:Nat)(i:j<=l.length):Tn (λh=>zbz h l (j:Int)) (λr=>r=(Go.Proofs.YtiafpechgjopfaaGreatDoor.numL (l.map qt) j:Int)):=by unfold zbz;refine Tt.loop (λm s=>∃k,k<=j/\m=j-k/\s=(l,(j:Int),(Go.Proofs.YtiafpechgjopfaaGreatDoor.numL (l.map qt) k:Int),(k:Int))) j waa ⟨0,U,Wab,by simp[Go.Proofs.YtiafpechgjopfaaGreatDoor.numL]⟩ λm s⟨k,n,p,a⟩ q e=>?_;subst a;dsimp only;refine wad (λc=>?_) λc=>Tt.pure ?_;{have d:k<l.length:=U;have a:=jlj (l.map qt) k X;rw[List.getElem_map,show(qt l[k]).kind=(l[k]).1 from rfl]at a;have g:=jil (l.map qt) k;refine Tt.J (λs=>s=(l,(j:Int),(Go.Proofs.YtiafpechgjopfaaGreatDoor.numL (l.map qt) (k+1):Int),(k:Int))) (λt b=>?_) λs a=>?_;{refine Tt.at d (wad (λf=>Tt.b1 (b _ ?_)) λf=>b _ ?_);{rw[a,if_pos f,wI U U];rfl};grind};.subst a;dsimp only;refine wai ?_;exact e (j-(k+1)) _ U ⟨k+1,U,rfl,rfl⟩};grind
def je9(n m:Nat)(l:Wam jh)(z:Int):Jt n (m+1) (l,z)=Ji n (Jt n m) l z:=rfl
theorem jo7(l:List jh)(S:l.length<=1000)(e:E):∀s t,AtT (l.map qt) s e t->Tt Fi.two (λi=>Jt i.1 i.2 (l,(t:Int)-1)) (λr=>r=yi e):=by
 have go:∀{e:E}{s t:Nat}(h:AtT (l.map qt) s e t),Tt Fi.two (λi=>Ji i.1 (Jt i.1 i.2) l ((t:Int)-1)) (λr=>r=yi e)->Tt Fi.two (λi=>Jt i.1 i.2 (l,(t:Int)-1)) (λr=>r=yi e):=λh u=>zla u λn m=>je9 n m l _;have G:∀{k:Int}{z:Int}{β:Type}{Q:β->Prop}{q:Nat×Nat->(List jh)×Int×Int×Bool->Option β},(Tt Fi.two (λi=>q i (l,z,k,decide (k=2\/k=5\/k=7))) Q)->Tt Fi.two (λi=>ja (some (decide (k=2))) λP=>ifB P (q i (l,z,k,true)) (ifB (decide (k=5)) (q i (l,z,k,true)) (q i (l,z,k,decide (k=7))))) Q:=λ{k z β Q q}h=>by
  refine Tt.b1 (wad (λc=>?_) λc=>wad (λR=>?_) λR=>?_)
  ·rw[wdg (.inl c)]at h;exact h
  ·rw[wdg (.inr (.inl R))]at h;exact h
  ·grind
 induction e with
 |set=>
  intro s t h;refine go h ?_;obtain⟨j,g,o,p⟩:=Z1 h;unfold Ji;rw[show(t:Int)-1=(j:Int) by omega];refine Tt.at g ?_;rw[p];exact wah rfl (Tt.pure rfl)
 |empty=>
  intro s t h;refine go h ?_;obtain⟨j,g,o,p⟩:=Z1 h;unfold Ji;rw[show(t:Int)-1=(j:Int) by omega];refine Tt.at g ?_;rw[p];refine wae rfl (Tt.J (λs=>s.2.2.2=true) (λq d=>G (d _ rfl)) λs f=>wah f (Tt.pure rfl))
 |star a O=>
  intro s t h;refine go h ?_;obtain⟨j,g,o,p⟩:=Z1 h;unfold Ji;rw[show(t:Int)-1=(j:Int) by omega];refine Tt.at g ?_;rw[p];refine wae rfl (Tt.J (λs=>s.2.2.2=true) (λq d=>G (d _ rfl)) λs f=>wah f (Tt.pure rfl))
 |opt a O=>
  intro s t h;refine go h ?_;obtain⟨j,g,o,p⟩:=Z1 h;unfold Ji;rw[show(t:Int)-1=(j:Int) by omega];refine Tt.at g ?_;rw[p];refine wae rfl (Tt.J (λs=>s.2.2.2=true) (λq d=>G (d _ rfl)) λs f=>wah f (Tt.pure rfl))
 |plus a O=>
  intro s t h;refine go h ?_;obtain⟨j,g,o,p⟩:=Z1 h;have v:=h.plus;have u:=v.bound;rw[wc0]at u;have Y:=O s (t-1) v;unfold Ji;rw[show(t:Int)-1=(j:Int) by omega];refine Tt.at g ?_;rw[p];refine wae rfl (Tt.J (λs=>s=(l,(j:Int),6,false)) (λq d=>G (d _ rfl)) λs f=>?_);subst f;dsimp only;rw[show T.w64 ((j:Int)-1)=((t-1:Nat):Int)-1 by rw[wI (by omega) (by omega)];omega];exact wae rfl (Tt.bind Y λr H=>wah rfl (Tt.pure H))
 |cat a b D F=>
  intro s t h;refine go h ?_;obtain⟨j,g,o,p⟩:=Z1 h;obtain⟨m,v,u,N,M⟩:=h.cat;have x:=u.bound;have w:=v.bound;rw[wc0]at x w;have B:=D s m v;have C:=F m (t-1) u;unfold Ji;rw[show(t:Int)-1=(j:Int) by omega];refine Tt.at g ?_;rw[p];refine wae rfl (Tt.J (λs=>s=(l,(j:Int),3,false)) (λq d=>G (d _ rfl)) λs f=>?_);subst f;dsimp only;rw[show T.w64 ((j:Int)-1)=((t-1:Nat):Int)-1 by rw[wI (by omega) (by omega)];omega];refine wae rfl (Tt.bind C λL A=>wae rfl (Waj (zhd l S u) Big.two λr H=>?_));subst H;rw[wI (by omega) (by omega)];refine Tt.bind B λI y=>wah rfl (Tt.J (λs=>s=(I && L)) (λq d=>wab (λc=>d _ (by grind)) λc=>d _ (by grind)) λs f=>Tt.pure ?_);rw[f,y,A];rfl
 |alt a b D F=>
  intro s t h;refine go h ?_;obtain⟨j,g,o,p⟩:=Z1 h;obtain⟨m,v,u,N,M⟩:=h.alt;have x:=u.bound;have w:=v.bound;rw[wc0]at x w;have B:=D s m v;have C:=F m (t-1) u;unfold Ji;rw[show(t:Int)-1=(j:Int) by omega];refine Tt.at g ?_;rw[p];refine wae rfl (Tt.J (λs=>s=(l,(j:Int),4,false)) (λq d=>G (d _ rfl)) λs f=>?_);subst f;dsimp only;rw[show T.w64 ((j:Int)-1)=((t-1:Nat):Int)-1 by rw[wI (by omega) (by omega)];omega];refine wae rfl (Tt.bind C λL A=>wae rfl (Waj (zhd l S u) Big.two λr H=>?_));subst H;rw[wI (by omega) (by omega)];refine Tt.bind B λI y=>wae rfl (Tt.J (λs=>s=(I ||L)) (λq d=>wab (λc=>d _ (by grind)) λc=>d _ (by grind)) λs f=>Tt.pure ?_);rw[f,y,A];rfl
def zx6(l:Wam jh)(a:l.length<=1000){e:E}{s t:Nat}(h:AtT (l.map qt) s e t):Tn (λb=>zjy b l ((t:Int)-1)) (λr=>r=yi e):=zl1 (jo7 l a e s t h)
def zaf(e:E)(n:Int)(last:Bool):Wa:=match last with
 |true=>vn e n
 |false=>qj e n
def jcd{l:Wa}{n m:Nat}(h:jx l)(a:∀x∈l,(n:Int)<=x/\x<n+m)(hm:n+m<=1000):l.length<=1000:=(RN.len ⟨h,λx b=>X⟩)
def zmx(e:E)(n:Nat)(last:Bool)(h:n+jv e<=1000):(zaf e n last).length<=1000:=by cases last;{exact jcd (V6 e n).1 (V6 e n).2 h};.exact jcd (zb2 e n).1 (zb2 e n).2 h
def jfk(n m:Nat)(l:Wam jh)(z:Int)(b:Bool):vw n (m+1) (l,z,b)=Q6 n (vw n m) l z b:=rfl
def zrv{l:Wam jh}{e:E}{s t:Nat}(h:AtT (l.map qt) s e t):Go.Proofs.YtiafpechgjopfaaGreatDoor.numL (l.map qt) s+jv e<=l.length:=by have a:=h.num;have b:=jil (l.map qt) t;have c:=h.bound;grind
def jmr(l:Wam jh)(Y:l.length<=1000)(last:Bool)(e:E):∀s t:Nat,AtT (l.map qt) s e t->Tt Fi.two (λi=>vw i.1 i.2 (l,(t:Int)-1,last)) (λr=>r=zaf e (Go.Proofs.YtiafpechgjopfaaGreatDoor.numL (l.map qt) s) last):=by have go:∀{e:E}{s t:Nat}(h:AtT (l.map qt) s e t),Tt Fi.two (λi=>Q6 i.1 (vw i.1 i.2) l ((t:Int)-1) last) (λr=>r=zaf e (Go.Proofs.YtiafpechgjopfaaGreatDoor.numL (l.map qt) s) last)->Tt Fi.two (λi=>vw i.1 i.2 (l,(t:Int)-1,last)) (λr=>r=zaf e (Go.Proofs.YtiafpechgjopfaaGreatDoor.numL (l.map qt) s) last):=λh d=>zla d λn m=>jfk n m l _ _;have Z:∀{a e:E}{s t:Nat},AtT (l.map qt) s e t->zz e=5\/zz e=6\/zz e=7->AtT (l.map qt) s a (t-1)->zaf e (Go.Proofs.YtiafpechgjopfaaGreatDoor.numL (l.map qt) s) last=zaf a (Go.Proofs.YtiafpechgjopfaaGreatDoor.numL (l.map qt) s) last->(∀s t:Nat,AtT (l.map qt) s a t->Tt Fi.two (λi=>vw i.1 i.2 (l,(t:Int)-1,last)) (λr=>r=zaf a (Go.Proofs.YtiafpechgjopfaaGreatDoor.numL (l.map qt) s) last))->Tt Fi.two (λi=>vw i.1 i.2 (l,(t:Int)-1,last)) (λr=>r=zaf e (Go.Proofs.YtiafpechgjopfaaGreatDoor.numL (l.map qt) s) last):=λ{a e s t}h u w p I=>by{refine go h ?_;obtain⟨j,C,D,F⟩:=Z1 h;have d:=w.bound;rw[wc0]at d;have H:=I s (t-1) w;unfold Q6;rw[show(t:Int)-1=(j:Int) from U];refine wac _ (atN C) ?_;rw[F];refine wae (wc3 U) (wae (wc3 U) ?_);rw[show T.w64 ((j:Int)-1)=((t-1:Nat):Int)-1 by rw[wI U U];omega];refine Tt.bind H λr Q=>Tt.J (λs=>s.2.2.2.2.1=true/\s.2.2.2.2.2=r) (λnx f=>Tt.b1 (wah (wdg U) (f _ ⟨wdg U,rfl⟩))) λs x=>wah x.1 (Tt.pure ?_);rw[x.2,Q,p]};have g:∀{a b e:E}{s t:Nat}(c:Bool),AtT (l.map qt) s e t->zz e=(match c with|true=>3|false=>4)->(∃m,AtT (l.map qt) s a m/\AtT (l.map qt) m b (t-1)/\s<m/\m<t-1)->(∀n,zaf e n last=(match last with|true=>(if c && !yi b then []else zaf a n last)++zaf b (n+jv a) last|false=>zaf a n last++(if c && !yi a then []else zaf b (n+jv a) last)))->(∀s t:Nat,AtT (l.map qt) s a t->Tt Fi.two (λi=>vw i.1 i.2 (l,(t:Int)-1,last)) (λr=>r=zaf a (Go.Proofs.YtiafpechgjopfaaGreatDoor.numL (l.map qt) s) last))->(∀s t:Nat,AtT (l.map qt) s b t->Tt Fi.two (λi=>vw i.1 i.2 (l,(t:Int)-1,last)) (λr=>r=zaf b (Go.Proofs.YtiafpechgjopfaaGreatDoor.numL (l.map qt) s) last))->Tt Fi.two (λi=>vw i.1 i.2 (l,(t:Int)-1,last)) (λr=>r=zaf e (Go.Proofs.YtiafpechgjopfaaGreatDoor.numL (l.map qt) s) last):=λ{a b e s t}c h M⟨m,w,d,b3,b0⟩ p k o=>by{refine go h ?_;obtain⟨j,C,D,F⟩:=Z1 h;have a1:=d.bound;have a0:=w.bound;rw[wc0]at a1 a0;have P:=k s m w;have v:=o m (t-1) d;have O:=w.num;have b2:=zrv w;have a4:=zrv d;rw[O]at v a4;have a3:=zmx a (Go.Proofs.YtiafpechgjopfaaGreatDoor.numL (l.map qt) s) last U;have N:=zmx b (Go.Proofs.YtiafpechgjopfaaGreatDoor.numL (l.map qt) s+jv a) last U;have p:=p (Go.Proofs.YtiafpechgjopfaaGreatDoor.numL (l.map qt) s);rw[wex]at v N;generalize zaf a (Go.Proofs.YtiafpechgjopfaaGreatDoor.numL (l.map qt) s) last=A at p P a3;generalize zaf b ((Go.Proofs.YtiafpechgjopfaaGreatDoor.numL (l.map qt) s:Int)+jv a) last=B at p v N;generalize zaf e (Go.Proofs.YtiafpechgjopfaaGreatDoor.numL (l.map qt) s) last=R at p⊢;unfold Q6;rw[show(t:Int)-1=(j:Int) from U];refine wac _ (atN C) ?_;rw[F];have L:zz e=3\/zz e=4:=by{rw[M];cases c<;>simp};have u:decide (zz e=3)=c:=by{rw[M];cases c<;>rfl};generalize zz e=K at L u;refine wae (wc3 U) (wae (wc3 U) ?_);have ew:T.w64 ((j:Int)-1)=((t-1:Nat):Int)-1:=by{rw[wI U U];omega};rw[ew];refine Tt.bind v λr Q=>?_;subst Q;refine Tt.J (λs=>s=(l,(j:Int),last,K,false,r)) (λnx f=>Tt.b1 (wab (λh=>f _ ?_) λh=>f _ rfl)) λs x=>?_;{have h:=wcj h;rw[wc3 U]};subst x;dsimp only;rw[ew];refine wae rfl (Waj (zhd l Y d) Big.two λq H=>Tt.b1 ?_);subst H;rw[wI U U];refine Tt.bind P λra a5=>?_;subst a5;refine Tt.J (λs=>∃z,s=(l,last,K,(m:Int)-1,z,r,ra)/\z=(c && last && !yi b)) (λnx f=>Tt.b1 ?_) λs⟨z,x,hz⟩=>?_;{rw[u];refine wab (λh=>wab (λg=>?_) λg=>f _ ⟨_,rfl,by rw[g];simp⟩) λh=>f _ ⟨_,rfl,by rw[h];rfl⟩;exact Waj (zx6 l Y d) Big.two λq H=>f _ ⟨_,rfl,by rw[h,g,H];rfl⟩};.subst x;dsimp only;refine wab (λh=>Tt.pure ?_) λh=>?_;{rw[h]at hz;rw[p];cases last;{simp at hz};.cases c<;>cases d:yi b<;>simp[d]at hz⊢};.refine Tt.J (λs=>∃y,s=(y,r,ra)/\y=(c && !last && !yi a)) (λny G=>Tt.b1 ?_) λs⟨y,x,S⟩=>?_;{rw[u];refine wab (λh=>wab (λg=>?_) λg=>G _ ⟨_,rfl,by rw[h];cases last<;>simp_all⟩) λh=>G _ ⟨_,rfl,by rw[h];rfl⟩;exact Waj (zx6 l Y w) Big.two λq H=>G _ ⟨_,rfl,by rw[h,H];cases last<;>simp_all⟩};.subst x;dsimp only;refine wab (λg=>Tt.pure ?_) λg=>wac _ (yp U U) (Tt.pure ?_);{rw[g]at S;rw[p];cases last;{cases c<;>cases d:yi a<;>simp[d]at S⊢};.cases c<;>simp at S};.rw[h]at hz;rw[g]at S;rw[p];cases last;{cases c<;>cases d:yi a<;>simp[d]at S⊢};.cases c<;>cases d:yi b<;>simp[d]at hz⊢};induction e with|set=>{intro s t h;refine go h ?_;obtain⟨j,C,D,F⟩:=Z1 h;have a2:j=s:=by{obtain⟨_,_,_,_,h3⟩:=h;simp[post]at h3;omega};unfold Q6;rw[show(t:Int)-1=(j:Int) from U];refine wac _ (atN C) ?_;rw[F];refine wah rfl (Waj (jlw l Y j U) Big.two λr Q=>Tt.pure ?_);subst Q;rw[a2];cases last<;>rfl}|empty=>{intro s t h;refine go h ?_;obtain⟨j,C,D,F⟩:=Z1 h;unfold Q6;rw[show(t:Int)-1=(j:Int) from U];refine wac _ (atN C) ?_;rw[F];refine wae rfl (wah rfl (Tt.pure ?_));cases last<;>rfl}|cat a b k o=>{exact λs t h=>g true h rfl h.cat (λn=>by cases last<;>simp[zaf,qj,vn]<;>split<;>simp_all) k o}|alt a b k o=>{exact λs t h=>g false h rfl h.alt (λn=>by cases last<;>simp[zaf,qj,vn]) k o}|star a I=>{exact λs t h=>Z h (.inl rfl) h.star (by cases last<;>rfl) I}|plus a I=>{exact λs t h=>Z h (.inr (.inl rfl)) h.plus (by cases last<;>rfl) I}|opt a I=>exact λs t h=>Z h (.inr (.inr rfl)) h.opt (by cases last<;>rfl) I
def zj6(l:Wam jh)(a:l.length<=1000){e:E}{s t:Nat}(h:AtT (l.map qt) s e t)(last:Bool):Tn (λb=>vu b l ((t:Int)-1) last) (λr=>r=zaf e (Go.Proofs.YtiafpechgjopfaaGreatDoor.numL (l.map qt) s) last):=zl1 (jmr l a last e s t h)
def zub(l:Wa)(x:Int)(i:l.length<=1000000):Tn (λg=>yc g l x) (λr=>r=decide (x∈l)):=by unfold yc;refine Tt.loop (λm s=>∃k,k<=l.length/\m=l.length-k/\s=(l,x,(k:Int))/\(x∈l↔x∈l.drop k)) l.length waa ⟨0,U,Wab,rfl,V⟩ λm s⟨k,h,j,f,e⟩ n d=>?_;subst f;dsimp only;refine wab (λc=>?_) λc=>Tt.pure ?_;{have c:=wcj c;have a:k<l.length:=U;rw[wcw a]at e;refine wac _ (atN a) (wab (λb=>Tt.pure ?_) λb=>Tt.b1 ?_);{grind};.have b:=wck b;rw[wI U U];refine d (l.length-(k+1)) _ U ⟨k+1,U,rfl,rfl,?_⟩;grind};grind
def jni{α:Type}{l:Wam α}{p:α->Bool}{k:Nat}(a:k<l.length):(l.take (k+1)).any p=((l.take k).any p ||p l[k]):=by rw[wcp a,List.any_append];simp
def jfo(l:Wam jh)(hl:l.length<=1000){e:E}(he:l.map qt=post e)(a b:Int):Tn (λnn=>zbh nn l a b) (λr=>r=zi2 e 0 a b):=by
 have d2:(subs e 0).length=l.length:=by{rw[yx,<- he,wc0]};have hw:AtT (l.map qt) 0 e l.length:=by{have:=wbh e;grind};have c9:Go.Proofs.YtiafpechgjopfaaGreatDoor.numL (l.map qt) 0=0:=Wab;unfold zbh;refine Tt.loop (λm s=>∃k,k<=l.length/\m=l.length-k/\s=(l,a,b,(k:Int))/\(((subs e 0).take k).any λx=>zai x.1 x.2 a b)=false) l.length waa ⟨0,U,Wab,rfl,V⟩ λm s⟨k,hk,hm,B,hf⟩ nx d1=>?_;subst B;dsimp only;refine wab (λc=>?_) λc=>Tt.pure ?_;rotate_left
 {have c:=wck c;have:k=l.length:=U;rw[this,<- d2,wc8]at hf;exact hf.symm};have c:=wcj c;have c8:k<l.length:=U;have H:k<(subs e 0).length:=U;have F:=jni (p:=λx=>zai x.1 x.2 a b) H;rw[hf,Bool.false_or]at F;have G:zai ((subs e 0)[k]).1 ((subs e 0)[k]).2 a b=true->true=zi2 e 0 a b:=λh=>by{symm;unfold zi2;rw[List.any_eq_true];exact⟨_,wcm H,h⟩};obtain⟨x,hx⟩:∃x,(subs e 0)[k]=x:=⟨_,rfl⟩
 obtain⟨O,C,b3⟩:=ju1 (l.map qt) e 0 l.length hw k x (by rw[c9,<- hx];exact wch H);rw[wd0]at C;rw[hx]at F G;obtain⟨f,n⟩:=x;simp only at C b3 F G;obtain⟨j,hj,e2,c6⟩:=Z1 C;obtain rfl:j=k:=U;subst b3;have d0:zai f (Go.Proofs.YtiafpechgjopfaaGreatDoor.numL (l.map qt) O) a b=false->(((subs e 0).take (j+1)).any λx=>zai x.1 x.2 a b)=false:=λh=>by{rwa [F]};refine Tt.J (λs=>s=(l,a,b,(j:Int))/\zai f (Go.Proofs.YtiafpechgjopfaaGreatDoor.numL (l.map qt) O) a b=false) (λny Z=>?_) λs⟨B,S⟩=>?_;rotate_left
 {subst B;dsimp only;refine Tt.b1 ?_;rw[wI U U];exact d1 (l.length-(j+1)) _ U ⟨j+1,U,rfl,rfl,d0 S⟩};refine wac _ (atN c8) ?_;rw[c6];have two:∀{ι:Type}{D:Fi ι}{φ:ι->Nat},Big D φ->∀{p q:E}{s1 t1 s2 t2:Nat}{β:Type}{Q:β->Prop}{K:ι->Bool->Wal β},AtT (l.map qt) s1 p t1->AtT (l.map qt) s2 q t2->∀{u v:Int},u=(t1:Int)-1->v=(t2:Int)-1->(Tt D (λi=>K i (decide (a∈vn p (Go.Proofs.YtiafpechgjopfaaGreatDoor.numL (l.map qt) s1)) && decide (b∈qj q (Go.Proofs.YtiafpechgjopfaaGreatDoor.numL (l.map qt) s2)))) Q)->Tt D (λi=>ja (vu (φ i) l u true) λx=>ja (yc (φ i) x a) λy=>ifB y (ja (vu (φ i) l v false) λz=>ja (yc (φ i) z b) λw=>K i w) (K i false)) Q:=λ{ι D φ}hφ{p q s1 t1 s2 t2 β Q K}P hq{u v}hu hv hK=>by{subst hu hv;have n1:=zrv P;have n2:=zrv hq;have l1:=zmx p (Go.Proofs.YtiafpechgjopfaaGreatDoor.numL (l.map qt) s1) true U;have l2:=zmx q (Go.Proofs.YtiafpechgjopfaaGreatDoor.numL (l.map qt) s2) false U;refine Waj (zj6 l hl P true) hφ λx hx=>?_;subst hx;refine Waj (zub _ a U) hφ λy hy=>?_;subst hy;refine wab (λY=>?_) λY=>?_;{refine Waj (zj6 l hl hq false) hφ λx hx=>?_;subst hx;refine Waj (zub _ b U) hφ λy hy=>?_;subst hy;have Y:decide (a∈vn p (Go.Proofs.YtiafpechgjopfaaGreatDoor.numL (l.map qt) s1))=true:=Y;rw[Y,weu]at hK;exact hK};.have Y:decide (a∈vn p (Go.Proofs.YtiafpechgjopfaaGreatDoor.numL (l.map qt) s1))=false:=Y;rw[Y,Bool.false_and]at hK;exact hK};have c3:=C.bound;rw[wc0]at c3;have ew:T.w64 ((j:Int)-1)=((j+1-1:Nat):Int)-1:=by{rw[wI U U];omega};have b5:∀{p:E},AtT (l.map qt) O p (j+1-1)->(zai f (Go.Proofs.YtiafpechgjopfaaGreatDoor.numL (l.map qt) O) a b=(decide (a∈vn p (Go.Proofs.YtiafpechgjopfaaGreatDoor.numL (l.map qt) O)) && decide (b∈qj p (Go.Proofs.YtiafpechgjopfaaGreatDoor.numL (l.map qt) O))))->zz f=5\/zz f=6->Tt wa0.mul (λi=>J (λ(g:(Wam jh)×Int×Int×Int×Int)=>ifB (decide (g.2.2.2.2=3)) (ja (Yv i.1 g.1 (w64 (g.2.2.2.1-1))) λx9=>J (λ(t:(Wam jh)×Int×Int×Int×Bool)=>ifB t.2.2.2.2 (some true) (ny i (t.1,t.2.1,t.2.2.1,t.2.2.2.1))) λL=>ja (vu i.1 g.1 (w64 (x9-1)) true) λa0=>ja (yc i.1 a0 g.2.1) λa1=>ifB a1 (ja (vu i.1 g.1 (w64 (g.2.2.2.1-1)) false) λa2=>ja (yc i.1 a2 g.2.2.1) λa3=>L (g.1,g.2.1,g.2.2.1,g.2.2.2.1,a3)) (L (g.1,g.2.1,g.2.2.1,g.2.2.2.1,false))) (ny i (g.1,g.2.1,g.2.2.1,g.2.2.2.1))) λx8=>J (λ(d:(Wam jh)×Int×Int×Int×Int×Bool)=>ifB d.2.2.2.2.2 (J (λ(o:(Wam jh)×Int×Int×Int×Int×Bool)=>ifB o.2.2.2.2.2 (some true) (x8 (o.1,o.2.1,o.2.2.1,o.2.2.2.1,o.2.2.2.2.1))) λN=>ja (vu i.1 d.1 (w64 (d.2.2.2.1-1)) true) λa4=>ja (yc i.1 a4 d.2.1) λa5=>ifB a5 (ja (vu i.1 d.1 (w64 (d.2.2.2.1-1)) false) λa6=>ja (yc i.1 a6 d.2.2.1) λa7=>N (d.1,d.2.1,d.2.2.1,d.2.2.2.1,d.2.2.2.2.1,a7)) (N (d.1,d.2.1,d.2.2.1,d.2.2.2.1,d.2.2.2.2.1,false))) (x8 (d.1,d.2.1,d.2.2.1,d.2.2.2.1,d.2.2.2.2.1))) λM=>ja (some (decide (zz f=5))) λa8=>ifB a8 (M (l,a,b,(j:Int),zz f,true)) (M (l,a,b,(j:Int),zz f,decide (zz f=6)))) (λr=>r=zi2 e 0 a b):=λ{p}P S b2=>by{generalize zz f=K at b2;refine Tt.J (λs=>s=(l,a,b,(j:Int),K)/\zai f (Go.Proofs.YtiafpechgjopfaaGreatDoor.numL (l.map qt) O) a b=false) (λnz I=>?_) λs⟨B,S⟩=>?_;{refine Tt.J (λs=>s=(l,a,b,(j:Int),K,true)) (λnu A=>?_) λs B=>?_;{refine Tt.b1 (wab (λc=>A _ rfl) λc=>A _ ?_);grind};.subst B;dsimp only;refine wah rfl (Tt.J (λs=>s=(l,a,b,(j:Int),K,zai f (Go.Proofs.YtiafpechgjopfaaGreatDoor.numL (l.map qt) O) a b)) (λnu A=>?_) λs B=>?_);{refine two waa.fst P P ew ew (A _ ?_);grind};.subst B;dsimp only;exact wab (λc=>Tt.pure (G c)) λc=>I _ ⟨rfl,c⟩};.subst B;dsimp only;exact wae (wc3 U) (Z _ ⟨rfl,S⟩)};have R:zai f (Go.Proofs.YtiafpechgjopfaaGreatDoor.numL (l.map qt) O) a b=false->zz f≠3->zz f≠5->zz f≠6->Tt wa0.mul (λi=>J (λ(g:(Wam jh)×Int×Int×Int×Int)=>ifB (decide (g.2.2.2.2=3)) (ja (Yv i.1 g.1 (w64 (g.2.2.2.1-1))) λx9=>J (λ(t:(Wam jh)×Int×Int×Int×Bool)=>ifB t.2.2.2.2 (some true) (ny i (t.1,t.2.1,t.2.2.1,t.2.2.2.1))) λL=>ja (vu i.1 g.1 (w64 (x9-1)) true) λa0=>ja (yc i.1 a0 g.2.1) λa1=>ifB a1 (ja (vu i.1 g.1 (w64 (g.2.2.2.1-1)) false) λa2=>ja (yc i.1 a2 g.2.2.1) λa3=>L (g.1,g.2.1,g.2.2.1,g.2.2.2.1,a3)) (L (g.1,g.2.1,g.2.2.1,g.2.2.2.1,false))) (ny i (g.1,g.2.1,g.2.2.1,g.2.2.2.1))) λx8=>J (λ(d:(Wam jh)×Int×Int×Int×Int×Bool)=>ifB d.2.2.2.2.2 (J (λ(o:(Wam jh)×Int×Int×Int×Int×Bool)=>ifB o.2.2.2.2.2 (some true) (x8 (o.1,o.2.1,o.2.2.1,o.2.2.2.1,o.2.2.2.2.1))) λN=>ja (vu i.1 d.1 (w64 (d.2.2.2.1-1)) true) λa4=>ja (yc i.1 a4 d.2.1) λa5=>ifB a5 (ja (vu i.1 d.1 (w64 (d.2.2.2.1-1)) false) λa6=>ja (yc i.1 a6 d.2.2.1) λa7=>N (d.1,d.2.1,d.2.2.1,d.2.2.2.1,d.2.2.2.2.1,a7)) (N (d.1,d.2.1,d.2.2.1,d.2.2.2.1,d.2.2.2.2.1,false))) (x8 (d.1,d.2.1,d.2.2.1,d.2.2.2.1,d.2.2.2.2.1))) λM=>ja (some (decide (zz f=5))) λa8=>ifB a8 (M (l,a,b,(j:Int),zz f,true)) (M (l,a,b,(j:Int),zz f,decide (zz f=6)))) (λr=>r=zi2 e 0 a b):=λS h3 h5 h6=>by{generalize zz f=K at h3 h5 h6;refine Tt.J (λs=>s=(l,a,b,(j:Int),K)) (λnz I=>?_) λs B=>?_;{refine Tt.J (λs=>s=(l,a,b,(j:Int),K,false)) (λnu A=>Tt.b1 (wae (wc3 h5) (A _ ?_))) λs B=>?_;{grind};.subst B;exact wae rfl (I _ rfl)};.subst B;exact wae (wc3 h3) (Z _ ⟨rfl,S⟩)};cases f with|set=>{exact R rfl (by simp[zz]) (by simp[zz]) (by simp[zz])}|empty=>{exact R rfl (by trivial) (by trivial) (by trivial)}|alt p q=>{exact R rfl (by simp[zz]) (by simp[zz]) (by simp[zz])}|opt p=>{exact R rfl (by simp[zz]) (by simp[zz]) (by simp[zz])}|star p=>{exact b5 C.star rfl (.inl rfl)}|plus p=>{exact b5 C.plus rfl (.inr rfl)}|cat p q=>obtain⟨m',P,hq,e3,e4⟩:=C.cat;have c4:=P.bound;rw[wc0]at c4;refine Tt.J (λs=>s=(l,a,b,(j:Int),3)) (λnz I=>?_) λs B=>?_;{refine Tt.J (λs=>s=(l,a,b,(j:Int),3,false)) (λnu A=>Tt.b1 (wae rfl (A _ rfl))) λs B=>?_;subst B;exact wae rfl (I _ rfl)};.subst B;dsimp only;rw[ew];refine wah rfl (Waj (zhd l hl hq) waa.fst λr S=>?_);subst S;refine Tt.J (λs=>s=(l,a,b,(j:Int),zai (.cat p q) (Go.Proofs.YtiafpechgjopfaaGreatDoor.numL (l.map qt) O) a b)) (λnu A=>?_) λs B=>?_;{refine two waa.fst P hq (wI U U) rfl (A _ ?_);rw[P.num];rfl};.subst B;dsimp only;exact wab (λc=>Tt.pure (G c)) λc=>Z _ ⟨rfl,c⟩
def zxg{l:Wam jh}(a:Y3 l=0):AtT (l.map qt) 0 (qr l) l.length:=by have:=wbh (qr l);rw[<- zlj a,wc0]at this;omega
def numL0(l:Wam Rx):Go.Proofs.YtiafpechgjopfaaGreatDoor.numL l 0=0:=Wab
def zio{l:Wam jh}(a:Y3 l=0):jv (qr l)=(Ja l).length:=(jmg (zlj a)).symm
def zfw{l:Wam jh}(a:Y3 l=0):jv (qr l)<=512:=by have b:=zrv (zxg a);have:=(V8 a).2;omega
def z1f(l:Wam jh)(g:Y3 l=0):Tn (λo=>zad o l) (λr=>r=Ja l):=by
 have p:=(V8 g).2;unfold zad;refine Waj (zi4 l U) waa λe h=>?_;rw[g]at h;subst h;refine wae rfl (Tt.loop (λm s=>∃k,k<=l.length/\m=l.length-k/\s=(l,(k:Int),Ja (l.take k))) l.length waa ⟨0,U,Wab,rfl⟩ λm s⟨k,q,t,f⟩ u d=>?_);subst f;dsimp only;refine wad (λc=>?_) λc=>Tt.pure ?_
 .have a:k<l.length:=U;have n:Ja (l.take (k+1))=Ja (l.take k)++if(l[k]).1=1 then [(l[k]).2.1]else []:=by rw[wcp a,zyc]
  have j:(Ja (l.take k)).length<=512:=by{unfold Ja;grind};refine Tt.J (λs=>s=(l,(k:Int),Ja (l.take (k+1)))) (λv b=>?_) λs f=>?_;{refine Tt.at a (wab (λi=>?_) λi=>b _ ?_);{refine Tt.at a (wac _ (yp X U) (b _ ?_));grind};grind};.subst f;dsimp only;refine wai ?_;exact d (l.length-(k+1)) _ U ⟨k+1,U,rfl,rfl⟩
 grind
def z8s(l:Wam jh)(a:Y3 l=0):Tn (λc=>zc1 c l) (λr=>r=vn (qr l) 0):=by have d:=(V8 a).2;unfold zc1;refine Waj (zi4 l U) waa λe b=>?_;rw[a]at b;subst b;refine wae rfl ?_;rw[wI U U];refine Waj (zj6 l U (zxg a) true) waa λr f=>Tt.pure ?_;assumption
def z12(l:Wam jh)(a:Y3 l=0):Tn (λc=>zav c l) (λr=>r=qj (qr l) 0):=by have d:=(V8 a).2;unfold zav;refine Waj (zi4 l U) waa λe b=>?_;rw[a]at b;subst b;refine wae rfl ?_;rw[wI U U];refine Waj (zj6 l U (zxg a) false) waa λr f=>Tt.pure ?_;assumption
def jwj(e:E)(i:Int)(k:Nat):((range (k+1)).map λ(b:Nat)=>(b:Int)).filter (λb=>zi2 e 0 i b)=(((range k).map λ(b:Nat)=>(b:Int)).filter λb=>zi2 e 0 i b)++if zi2 e 0 i k=true then [(k:Int)]else []:=by rw[List.range_succ,wdb,we9];grind
def zyo(l:Wam jh)(a:Y3 l=0)(i:Nat)(hi:i<jv (qr l)):Tn (λv=>Zn v l (i:Int)) (λr=>r=z0k (qr l) i):=by have w:=(V8 a).2;have p:=zio a;have q:=zfw a;unfold Zn;refine Waj (z1f l a) waa λr j=>?_;subst j;rw[<- p];refine Tt.b1 ?_;unfold z0k;refine Tt.loop (λm s=>∃k o,k<=jv (qr l)/\m=jv (qr l)-k/\s=(l,(i:Int),(jv (qr l):Int),(k:Int),o)/\o=((range k).map λ(b:Nat)=>(b:Int)).filter λb=>zi2 (qr l) 0 i b) (jv (qr l)) waa ⟨0,_,U,Wab,rfl,rfl⟩ λm s⟨k,o,x,y,e,t⟩ z f=>?_;subst e;dsimp only;refine wad (λc=>?_) λc=>Tt.pure ?_;{have u:o.length<=512:=by{grind};have h:=jwj (qr l) i k;rw[<- t]at h;refine Tt.J (λs=>s=(l,(i:Int),(jv (qr l):Int),(k:Int),((range (k+1)).map λ(b:Nat)=>(b:Int)).filter λb=>zi2 (qr l) 0 i b)) (λA d=>?_) λs e=>?_;{refine Tt.J (λs=>s=(l,(i:Int),(jv (qr l):Int),(k:Int),zi2 (qr l) 0 i k,o)) (λB g=>?_) λs e=>?_;{refine Tt.b1 (wah (wdg U) (wah (wdg U) ?_));refine Waj (jfo l U (zlj a) i k) waa.fst λr j=>g _ X};.subst e;dsimp only;refine wab (λn=>wac _ (yp X U) (d _ ?_)) λn=>d _ ?_;{grind};grind};.subst e;dsimp only;refine wai ?_;exact f (jv (qr l)-(k+1)) _ U ⟨k+1,_,U,rfl,rfl,rfl⟩};grind
def zxi(l:Wam jh)(c:Y3 l=0):Tn (λd=>Yb d l) (λr=>∃a,r=some (Ja l,a,J0 (qr l) 0,())/\a.length=jv (qr l)/\FolOk a (za4 (qr l) 0)):=
 Tt.mono (js9 l c) λr⟨e,a,b,f,g,h⟩=>by rw[jdm b];grind
def jj9(l:Wam jh)(b:Y3 l=0):Tn (λd=>zhi d l) (λr=>r=Ja l):=by unfold zhi;refine Waj (zxi l b) waa λr⟨a,c,e,f⟩=>?_;subst c;exact wah rfl (Tt.b1 (Tt.pure rfl))
def jj6(l:Wam jh)(b:Y3 l=0):Tn (λd=>zh0 d l) (λr=>r=vn (qr l) 0):=by unfold zh0;refine Waj (zxi l b) waa λr⟨a,c,e,f⟩=>?_;subst c;exact wah rfl (Tt.b1 (Tt.pure rfl))
def jgj(l:Wam jh)(b:Y3 l=0):Tn (λd=>zfo d l) (λr=>r=qj (qr l) 0):=by unfold zfo;refine Waj (zxi l b) waa λr⟨a,c,e,f⟩=>?_;subst c;exact wah rfl (Tt.b1 (Tt.pure rfl))
def jbv(l:Wam jh)(e:Y3 l=0)(i:Nat)(hi:i<jv (qr l)):Tn (λh=>zd7 h l (i:Int)) (λr=>r=z0k (qr l) i):=by unfold zd7;refine Waj (zxi l e) waa λr⟨a,f,m,d⟩=>?_;subst f;refine Tt.J (λs=>s=((i:Int),some (Ja l,a,J0 (qr l) 0,()),true)) (λn c=>Tt.b1 (wah rfl (wah (wdg U) (Tt.b1 (c _ ?_))))) λs g=>?_;{rw[wdg];show(i:Int)<(jv (qr l):Int);omega};.subst g;have b:i<a.length:=U;refine wah rfl (Tt.b1 (Tt.at b (Tt.pure ?_)));obtain⟨j,k⟩:=d i _ (wch b);exact ju3 j k
def jtr(a b:Int):Tn (λf=>zbj f a b) (λr=>r=decide (a<b)):=by unfold zbj;refine Tt.J (λs=>s=decide (a<b)) (λg c=>?_) λs e=>Tt.pure e;refine Tt.bind (R:=λr=>r=false) (Tt.pure V) λr d=>?_;subst d;exact wae rfl (c _ rfl)
def zq8{l:Wa}(h:jx l){i j:Nat}(hi:i<j)(a:j<l.length):l[i]'U<l[j]:=by have:=we2.1 h i j U a hi;omega
def bs_ex(l:Wa)(x:Int)(L:l.length<=1000000)(v:jx l):Tn (λF=>yo F l x) (λr=>r.2.1=decide (x∈l)):=by unfold yo;refine Tt.b1 (Tt.loop (λm s=>∃a b,a<=b/\b<=l.length/\m=b-a/\s=(l,x,(l.length:Int),(a:Int),(b:Int))/\∀i g,(i<a->l[i]<x)/\(b<=i->x<=l[i])) l.length waa ⟨0,l.length,U,U,U,rfl,λi g=>⟨λh=>U,λh=>U⟩⟩ λm s⟨a,b,C,I,M,n,q⟩ N u=>?_);subst n;dsimp only;refine wad (λc=>?_) (λc=>?_);{have f:(a+b) / 2<l.length:=U;refine Tt.J (λs=>∃k j,k<=j/\j<=l.length/\j-k<b-a/\s=(l,x,(l.length:Int),(k:Int),(j:Int))/\∀i g,(i<k->l[i]<x)/\(j<=i->x<=l[i])) (λG d=>?_) λs⟨k,j,z,p,H,n,B⟩=>?_;{refine wac _ (mid_eq a b U) (Tt.b1 ?_);have A:wr .i64 (((a+b) / 2:Nat):Int)=(((a+b) / 2:Nat):Int):=zbs U U;rw[A];refine Tt.at f (Waj (jtr _ _) waa.fst λr w=>?_);subst w;refine wad (λo=>Tt.b1 ?_) λo=>d _ ⟨a,(a+b) / 2,U,U,U,rfl,λi g=>⟨(q i g).1,λh=>?_⟩⟩;{rw[wI U U];refine d _ ⟨(a+b) / 2+1,b,U,U,U,V,λi g=>⟨λh=>?_,(q i g).2⟩⟩;by_cases e:i=(a+b) / 2;{grind};.have:=zq8 v (i:=i) U f;omega};.by_cases e:i=(a+b) / 2;{grind};.have:=zq8 v (i:=(a+b) / 2) U g;omega};.subst n;exact u _ _ U ⟨k,j,z,p,rfl,rfl,B⟩};.have t:(∀h,l[a]≠x)->x∉l:=λh D=>by{obtain⟨i,g,rfl⟩:=wei D;have z:=q i g;by_cases p:i<a;{omega};.by_cases e:i=a;{grind};.have:=zq8 v (i:=a) U g;grind};refine Tt.J (λs=>s.2=decide (x∈l)) (λG d=>Tt.b1 (wad (λc=>?_) λc=>d _ ?_)) λs n=>Tt.pure n;{have f:a<l.length:=U;refine Tt.at f (Tt.b1 (wad (λo=>d _ ?_) λo=>?_));{grind};.have p:=wc3 (t λ_=>o);refine Tt.at f (Tt.bind (R:=λr=>r=false) (Tt.pure V) λr y=>?_);subst y;exact wae rfl (d _ p.symm)};grind
def Has_ex(l:Wa)(x:Int)(a:l.length<=1000000)(b:jx l):Tn (λc=>zj2 c l x) (λr=>r=decide (x∈l)):=by unfold zj2;exact Waj (bs_ex l x a b) waa λr h=>Tt.pure h
def zo9(a m:Nat)(t:jb×Wb×(Wam jj)×Int×Wb):yh a (m+1) t=Qs a (yh a m) t:=rfl
def StQ(g:jb)(em:Wb)(al:W7)(tok:Int)(l:List jj)(a:Wb)(r:Bool×Wb):Prop:=r.2.length=g.2.1.length/\yw r.2<=yw a/\(r.1=true->inF em al tok l)
def jib{r:Wb}{z:Nat}(h:z<r.length):r.getD z false=r[z]:=X
def zxz(g:jb)(y:GOk g)(em:Wb)(al:W7)(a1:em.length=g.2.1.length)(N:∀p∈g.2.2.1,fiC em al p)(tok:Int):∀k l a,yw a<k->a.length=g.2.1.length->(∀x∈l,zdg g x)->l.length<=1000000->Tt Fi.two (λi=>yh i.1 i.2 (g,em,l,tok,a)) (StQ g em al tok l a)
 |0,_,_,h,_,_,_=>U
 |k+1,l,a,hk,Z,a2,b5=>by
  refine zla (b:=λi=>Qs i.1 (yh i.1 i.2) (g,em,l,tok,a)) ?_ λn m=>zo9 n m _;unfold Qs;have b7:=y.p;refine Tt.loop (λm s=>∃(d:Nat)(e:Wb),d<=l.length/\m=l.length-d/\s=(em,l,tok,(d:Int),e,g)/\e.length=g.2.1.length/\yw e<=yw a/\(inF em al tok (l.drop d)->inF em al tok l)) l.length Big.two ⟨0,a,U,Wab,rfl,Z,wcs _,λh=>h⟩ λm s⟨d,e,hd,hm,H,f,B,u⟩ nx a3=>?_;subst H;dsimp only;refine wad (λc=>?_) λc=>Tt.pure ⟨f,B,λh=>X⟩;have F:d<l.length:=U;rw[wcw F]at u;have q:=atN F;have hx:=a2 _ (wcm F);generalize l[d]=x at u q hx;refine wac _ q (wab (λw=>wac _ q (Tt.pure ⟨f,B,λh=>u ?_⟩)) λw=>?_);{have h:=wcj h;have w:x.1=false:=by{simpa using w};unfold inF;rw[if_neg (by rw[w];simp)];exact h.symm}
  .have w:x.1=true:=by{simpa using w};obtain⟨i1,i2⟩:=hx;rw[if_pos w]at i2;obtain⟨z,hz⟩:∃z:Nat,x.2.1=z:=⟨x.2.1.toNat,U⟩
   have v:z<e.length:=U;have T:z<em.length:=U;have R:tok∈al.getD z []->inF em al tok l:=λh=>u (by
    unfold inF;rw[if_pos w,hz,wcy];exact .inl h)
   have S:em[z]=true->inF em al tok (l.drop (d+1))->inF em al tok l:=λh1 h2=>u (by
    unfold inF;rw[if_pos w,hz,wcy];exact .inr ⟨by rw[jib T,h1],h2⟩)
   refine Tt.J (λs=>∃(b:Bool)(o:Wb),s=(em,l,tok,(d:Int),b,o,g)/\o.length=g.2.1.length/\yw o<=yw a/\(b=true->inF em al tok l)) (λnq G=>?_) λs⟨b,o,H,ho,C,Y⟩=>?_;{refine wac _ q ?_;rw[hz];refine waj v (Tt.at v (wab (λc2=>G _ ⟨_,_,rfl,f,B,λh=>by cases h⟩) λc2=>waj v (wac _ (zr true v) ?_)));have b4:=zgf (by rw[wch v,c2]);refine Tt.loop (λm s=>∃i L,i<=g.2.2.1.length/\m=g.2.2.1.length-i/\s=(em,(z:Int),tok,(i:Int),L,g)/\L.length=g.2.1.length/\yw L<yw a) g.2.2.1.length Big.two.fst ⟨0,_,U,U,rfl,by rw[wd5];exact f,U⟩ λm2 s⟨i,L,hi,b6,H,D,O⟩ ny a4=>?_;subst H;dsimp only;refine wad (λc3=>?_) λc3=>(G _ ⟨_,_,rfl,D,U,λh=>by cases h⟩).fst;have A:i<g.2.2.1.length:=U;have t:=atN A;have j:=wcm A;generalize g.2.2.1[i]=p at t j;refine Tt.J (λs=>∃(b:Bool)(M:Wb),s=(em,(z:Int),tok,(i:Int),b,M,g)/\M.length=g.2.1.length/\yw M<yw a/\(b=true->inF em al tok l)) (λnu Q=>?_) λs⟨b,M,H,P,a0,Y⟩=>?_;{refine wac _ t (Tt.b1 (wad (λc4=>wac _ t ?_) λc4=>Q _ ⟨_,_,rfl,D,O,λh=>by cases h⟩));have ih:=zxz g y em al a1 N tok k p.2.1 L U D (y.items p j) (by have:=y.len p j;omega);refine Tt.bind ih.fst.fst λr⟨r1,r2,r3⟩=>Q _ ⟨_,_,rfl,r1,U,λh=>R ?_⟩;have:=N p j tok (r3 h);grind};.subst H;dsimp only;refine wab (λI=>(G _ ⟨_,_,rfl,P,U,λ_=>Y I⟩).fst) λI=>wai ?_;exact a4 (g.2.2.1.length-(i+1)) _ U ⟨i+1,M,U,rfl,rfl,P,a0⟩};.subst H;dsimp only;refine wab (λI=>Tt.pure ⟨ho,C,λ_=>Y I⟩) λI=>wac _ q ?_;rw[hz];refine Tt.at T (wab (λc6=>Tt.pure ⟨ho,C,λh=>X⟩) λc6=>wai ?_);exact a3 (l.length-(d+1)) _ U ⟨d+1,o,U,rfl,rfl,ho,C,S X⟩
def RN.snoc{n:Nat}{l:Wa}(h:RN n l){i:Nat}(hi:i<n)(f:∀x∈l,x<(i:Int)):RN n (l++[(i:Int)]):=by refine⟨?_,λx c=>?_⟩;{unfold jx;rw[wel];exact⟨h.r,V,λa e b d=>by simp at d;subst d;exact f a e⟩};.rcases wcu.1 c with c|c;{exact h.b x c};.simp at c;subst c;omega
def ShutI(em:Wb)(tok:Int)(M:Wb):List jj->Prop
 |[]=>True
 |x::l=>if x.1=true then M[x.2.1.toNat]?=some true/\(em.getD x.2.1.toNat false=true->ShutI em tok M l)else tok≠x.2.1
def MoreM(M a:Wb):Prop:=∀i:Nat,M[i]?=some true->a[i]?=some true
def ShutI.mono{em:Wb}{tok:Int}{M a:Wb}(h:MoreM M a):∀{l:Wam jj},ShutI em tok M l->ShutI em tok a l
 |[],_=>trivial
 |x::l,k=>by unfold ShutI at k⊢;split;{rename_i c;rw[if_pos c]at k;exact⟨h _ k.1,λb=>ShutI.mono h (k.2 b)⟩};grind
def CloM(ps:List jk)(em:Wb)(tok:Int)(M a:Wb):Prop:=∀i:Nat,a[i]?=some true->M[i]?=some true\/∀p∈ps,p.1=(i:Int)->ShutI em tok a p.2.1
def CloM.refl{ps:Wam jk}{em:Wb}{tok:Int}(M:Wb):CloM ps em tok M M:=λi h=> .inl h
def CloM.trans{ps:Wam jk}{em:Wb}{tok:Int}{A B C:Wb}(h:CloM ps em tok A B)(k:CloM ps em tok B C)(hm:MoreM B C):CloM ps em tok A C:=λi d=>by rcases k i d with b|b;{rcases h i b with c|c;{grind};.exact .inr λp e a=>(c p e a).mono hm};grind
structure StX(g:jb)(em:List Bool)(tok:Int)(l:List jj)(been:List Bool)(r:Bool×List Bool):Prop where
 ln:r.2.length=g.2.1.length
 c:yw r.2<=yw been
 m:MoreM been r.2
 s:r.1=false->ShutI em tok r.2 l/\CloM g.2.2.1 em tok been r.2
def MoreM.set{M:Wb}{z:Nat}:MoreM M (M.set z true):=λi h=>jcb h
def MoreM.trans{A B C:Wb}(h:MoreM A B)(k:MoreM B C):MoreM A C:=λi a=>k i (h i a)
def zur(g:jb)(H:GOk g)(em:Wb)(b6:em.length=g.2.1.length)(tok:Int):∀k l a,yw a<k->a.length=g.2.1.length->(∀x∈l,zdg g x)->l.length<=1000000->Tt Fi.two (λi=>yh i.1 i.2 (g,em,l,tok,a)) (StX g em tok l a)
 |0,_,_,h,_,_,_=>U
 |k+1,l,a,hk,b4,b8,e4=>by
  refine zla (b:=λi=>Qs i.1 (yh i.1 i.2) (g,em,l,tok,a)) ?_ λn m=>zo9 n m _;unfold Qs;have e7:=H.p;refine Tt.loop (λm s=>∃d e,d<=l.length/\m=l.length-d/\s=(em,l,tok,(d:Int),e,g)/\e.length=g.2.1.length/\yw e<=yw a/\MoreM a e/\CloM g.2.2.1 em tok a e/\(∀M,MoreM e M->ShutI em tok M (l.drop d)->ShutI em tok M l)) l.length Big.two ⟨0,a,U,Wab,rfl,b4,wcs _,λi h=>h,CloM.refl _,λM _ h=>h⟩ λm s⟨d,e,hd,hm,hs,f,Q,C,R,F⟩ nx c0=>?_;subst hs;dsimp only;refine wad (λc=>?_) λc=>Tt.pure ⟨f,Q,C,λ_=>⟨F e (λi h=>h) ?_,R⟩⟩;rotate_left
  {rw[wds U];trivial};have Y:d<l.length:=U;rw[wcw Y]at F;have y:=atN Y;have hx:=b8 _ (wcm Y);generalize l[d]=x at F y hx;refine wac _ y (wab (λP=>wac _ y (Tt.pure ⟨f,Q,C,λh=>⟨F e (λi h=>h) ?_,R⟩⟩)) λP=>?_);{have h:=wck h;have P:x.1=false:=by{simpa using P};unfold ShutI;grind}
  .have P:x.1=true:=by{simpa using P};obtain⟨i1,i2⟩:=hx;rw[if_pos P]at i2;obtain⟨z,hz⟩:∃z:Nat,x.2.1=z:=⟨x.2.1.toNat,U⟩
   have v:z<e.length:=U;have a7:z<em.length:=U;have O:∀M,MoreM e M->M[z]?=some true->(em[z]=true->ShutI em tok M (l.drop (d+1)))->ShutI em tok M l:=λM hM h1 h2=>F M hM (by
    unfold ShutI;rw[if_pos P,hz,wcy];exact⟨h1,λh=>h2 (by rwa [jib a7]at h)⟩)
   refine Tt.J (λs=>∃b o,s=(em,l,tok,(d:Int),b,o,g)/\o.length=g.2.1.length/\yw o<=yw a/\MoreM e o/\(b=false->o[z]?=some true/\CloM g.2.2.1 em tok e o)) (λnq Z=>?_) λs⟨b,o,hs,ho,S,u,hb⟩=>?_
   .refine wac _ y ?_;rw[hz];refine waj v (Tt.at v (wab (λc2=>Z _ ⟨_,_,rfl,f,Q,λi h=>h,λ_=>⟨by rw[wch v,c2],CloM.refl _⟩⟩) λc2=>waj v (wac _ (zr true v) ?_)));have e0:=zgf (by rw[wch v,c2]);have d0:(e.set z true)[z]?=some true:=X;refine Tt.loop (λm s=>∃i w,i<=g.2.2.1.length/\m=g.2.2.1.length-i/\s=(em,(z:Int),tok,(i:Int),w,g)/\w.length=g.2.1.length/\yw w<yw a/\MoreM (e.set z true) w/\CloM g.2.2.1 em tok (e.set z true) w/\∀j p,j<i->g.2.2.1[j]?=some p->p.1=(z:Int)->ShutI em tok w p.2.1) g.2.2.1.length Big.two.fst ⟨0,_,U,Wab,rfl,by rw[wd5];exact f,U,λi h=>h,CloM.refl _,λj p h=>U⟩ λm2 s⟨i,w,hi,e5,hs,T,a2,t,L,a6⟩ ny c7=>?_;subst hs;dsimp only;refine wad (λc3=>?_) λc3=>(Z _ ⟨_,_,rfl,T,U,MoreM.set.trans t,λ_=>⟨t _ d0,λj hj=>?_⟩⟩).fst;rotate_left
    {have a1:∀p∈g.2.2.1,p.1=(z:Int)->ShutI em tok w p.2.1:=λp hp=>by{obtain⟨j,hj⟩:=wdd hp;exact a6 j p (by have:=(wcl.1 hj).1;omega) hj};rcases L j hj with h|h;{by_cases e1:j=z;{subst e1;exact .inr a1};.rw[wdl,if_neg (λh=>e1 h.symm)]at h;exact .inl h};.exact .inr h};have B:i<g.2.2.1.length:=U;have A:=atN B;have b7:=wch B;have D:=wcm B;generalize g.2.2.1[i]=p at A D b7;refine Tt.J (λs=>∃(b:Bool)(I:Wb),s=(em,(z:Int),tok,(i:Int),b,I,g)/\I.length=g.2.1.length/\yw I<yw a/\MoreM w I/\(b=false->CloM g.2.2.1 em tok w I/\(p.1=(z:Int)->ShutI em tok I p.2.1))) (λnu a5=>?_) λs⟨b,I,hs,a3,b5,G,hb⟩=>?_;{refine wac _ A (Tt.b1 (wad (λc4=>wac _ A ?_) λc4=>a5 _ ⟨_,_,rfl,T,a2,λi h=>h,λ_=>⟨CloM.refl _,λh=>absurd h c4⟩⟩));have ih:=zur g H em b6 tok k p.2.1 w U T (H.items p D) (by have:=H.len p D;omega);exact Tt.bind ih.fst.fst λr⟨r1,r2,r3,r4⟩=>a5 _ ⟨_,_,rfl,r1,U,r3,λh=>⟨(r4 h).2,λ_=>(r4 h).1⟩⟩};.subst hs;dsimp only;refine wab (λc5=>(Z _ ⟨_,_,rfl,a3,U,(MoreM.set.trans t).trans G,λh=>X⟩).fst) λc5=>wai ?_;obtain⟨b1,b2⟩:=hb U;refine c7 (g.2.2.1.length-(i+1)) _ U ⟨i+1,I,U,rfl,rfl,a3,b5,t.trans G,L.trans b1 G,λj q hj hq c9=>?_⟩;by_cases b9:j<i;{exact(a6 j q b9 hq c9).mono G};grind
   .subst hs;dsimp only;refine wab (λc5=>Tt.pure ⟨ho,S,C.trans u,λh=>X⟩) λc5=>wac _ y ?_;rw[hz];obtain⟨b1,b2⟩:=hb U;have N:=R.trans b2 u;refine Tt.at a7 (wab (λc6=>Tt.pure ⟨ho,S,C.trans u,λ_=>⟨O o u b1 λh=>?_,N⟩⟩) λc6=>Tt.b1 ?_);{grind};rw[wI U U];refine c0 (l.length-(d+1)) _ U ⟨d+1,o,U,rfl,rfl,ho,S,C.trans u,N,λM hM h=>O M (u.trans hM) (hM _ b1) λ_=>h⟩
def jv8{ps:Wam jk}{em:Wb}{tok:Int}{M:Wb}(c:∀p∈ps,0<=p.1)(f:∀i:Nat,M[i]?=some true->∀p∈ps,p.1=(i:Int)->ShutI em tok M p.2.1){l:Wam jj}(h:FiL em ps tok l):¬ShutI em tok M l:=by induction h with|tok a b=>{intro k;unfold ShutI at k;grind}|rule a g e _ d=>{intro k;unfold ShutI at k;grind}|skip a b _ d=>intro k;unfold ShutI at k;grind
end
end Go.Proofs.YtiafpechgjopfaaGreatDoor.T
