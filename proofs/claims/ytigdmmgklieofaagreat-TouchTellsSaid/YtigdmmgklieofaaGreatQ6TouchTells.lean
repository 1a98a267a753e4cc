
import Derived.Test.YtigdmmgklieofaaGreatQ5TouchTells

namespace Go.Proofs.YtigdmmgklieofaaGreat.T
noncomputable section
open _root_.Go.Proofs.Tryz
set_option maxRecDepth 100000
set_option maxHeartbeats 8000000
set_option linter.unusedVariables false
set_option linter.unusedSimpArgs false
set_option linter.defProp false
open List (replicate range)
open Go Go.RowKit L
def zrb(a m:Nat)(t:jb×W8×(Wam jj)×Int×W8):ye a (m+1) t=Qw a (ye a m) t:=rfl
def StQ(g:jb)(em:W8)(al:W4)(tok:Int)(l:List jj)(a:W8)(r:Bool×W8):Prop:=r.2.length=g.2.1.length/\yw r.2<=yw a/\(r.1=true->inF em al tok l)
def jg9{r:W8}{z:Nat}(h:z<r.length):r.getD z false=r[z]:=X
def zys(g:jb)(y:GOk g)(em:W8)(al:W4)(a1:em.length=g.2.1.length)(N:∀p∈g.2.2.1,fiC em al p)(tok:Int):∀k l a,yw a<k->a.length=g.2.1.length->(∀x∈l,zdh g x)->l.length<=1000000->Tt Fi.two (λi=>ye i.1 i.2 (g,em,l,tok,a)) (StQ g em al tok l a)
 |0,_,_,h,_,_,_=>U
 |k+1,l,a,hk,Z,a2,b5=>by
  refine zl4 (b:=λi=>Qw i.1 (ye i.1 i.2) (g,em,l,tok,a)) ?_ λn m=>zrb n m _;unfold Qw;have b7:=y.p;refine Tt.loop (λm s=>∃(d:Nat)(e:W8),d<=l.length/\m=l.length-d/\s=(em,l,tok,(d:Int),e,g)/\e.length=g.2.1.length/\yw e<=yw a/\(inF em al tok (l.drop d)->inF em al tok l)) l.length Big.two ⟨0,a,U,Wab,rfl,Z,wcs _,λh=>h⟩ λm s⟨d,e,hd,hm,H,f,B,u⟩ nx a3=>?_;subst H;dsimp only;refine wad (λc=>?_) λc=>Tt.pure ⟨f,B,λh=>X⟩;have F:d<l.length:=U;rw[wcy F]at u;have q:=atN F;have hx:=a2 _ (wcm F);generalize l[d]=x at u q hx;refine wac _ q (wab (λw=>wac _ q (Tt.pure ⟨f,B,λh=>u ?_⟩)) λw=>?_);{have h:=wci h;have w:x.1=false:=by{simpa using w};unfold inF;rw[if_neg (by rw[w];simp)];exact h.symm}
  .have w:x.1=true:=by{simpa using w};obtain⟨i1,i2⟩:=hx;rw[if_pos w]at i2;obtain⟨z,hz⟩:∃z:Nat,x.2.1=z:=⟨x.2.1.toNat,U⟩
   have v:z<e.length:=U;have T:z<em.length:=U;have R:tok∈al.getD z []->inF em al tok l:=λh=>u (by
    unfold inF;rw[if_pos w,hz,wcz];exact .inl h)
   have S:em[z]=true->inF em al tok (l.drop (d+1))->inF em al tok l:=λh1 h2=>u (by
    unfold inF;rw[if_pos w,hz,wcz];exact .inr ⟨by rw[jg9 T,h1],h2⟩)
   refine Tt.J (λs=>∃(b:Bool)(o:W8),s=(em,l,tok,(d:Int),b,o,g)/\o.length=g.2.1.length/\yw o<=yw a/\(b=true->inF em al tok l)) (λnq G=>?_) λs⟨b,o,H,ho,C,Y⟩=>?_;{refine wac _ q ?_;rw[hz];refine waj v (Tt.at v (wab (λc2=>G _ ⟨_,_,rfl,f,B,λh=>by cases h⟩) λc2=>waj v (wac _ (yu true v) ?_)));have b4:=zgq (by rw[wch v,c2]);refine Tt.loop (λm s=>∃i L,i<=g.2.2.1.length/\m=g.2.2.1.length-i/\s=(em,(z:Int),tok,(i:Int),L,g)/\L.length=g.2.1.length/\yw L<yw a) g.2.2.1.length Big.two.fst ⟨0,_,U,U,rfl,by rw[wdy];exact f,U⟩ λm2 s⟨i,L,hi,b6,H,D,O⟩ ny a4=>?_;subst H;dsimp only;refine wad (λc3=>?_) λc3=>(G _ ⟨_,_,rfl,D,U,λh=>by cases h⟩).fst;have A:i<g.2.2.1.length:=U;have t:=atN A;have j:=wcm A;generalize g.2.2.1[i]=p at t j;refine Tt.J (λs=>∃(b:Bool)(M:W8),s=(em,(z:Int),tok,(i:Int),b,M,g)/\M.length=g.2.1.length/\yw M<yw a/\(b=true->inF em al tok l)) (λnu Q=>?_) λs⟨b,M,H,P,a0,Y⟩=>?_;{refine wac _ t (Tt.b1 (wad (λc4=>wac _ t ?_) λc4=>Q _ ⟨_,_,rfl,D,O,λh=>by cases h⟩));have ih:=zys g y em al a1 N tok k p.2.1 L U D (y.items p j) (by have:=y.len p j;omega);refine Tt.bind ih.fst.fst λr⟨r1,r2,r3⟩=>Q _ ⟨_,_,rfl,r1,U,λh=>R ?_⟩;have:=N p j tok (r3 h);grind};.subst H;dsimp only;refine wab (λI=>(G _ ⟨_,_,rfl,P,U,λ_=>Y I⟩).fst) λI=>wai ?_;exact a4 (g.2.2.1.length-(i+1)) _ U ⟨i+1,M,U,rfl,rfl,P,a0⟩};.subst H;dsimp only;refine wab (λI=>Tt.pure ⟨ho,C,λ_=>Y I⟩) λI=>wac _ q ?_;rw[hz];refine Tt.at T (wab (λc6=>Tt.pure ⟨ho,C,λh=>X⟩) λc6=>wai ?_);exact a3 (l.length-(d+1)) _ U ⟨d+1,o,U,rfl,rfl,ho,C,S X⟩
def RN.snoc{n:Nat}{l:W7}(h:RN n l){i:Nat}(hi:i<n)(f:∀x∈l,x<(i:Int)):RN n (l++[(i:Int)]):=by refine⟨?_,λx c=>?_⟩;{unfold jx;rw[wem];exact⟨h.r,V,λa e b d=>by simp at d;subst d;exact f a e⟩};.rcases wcu.1 c with c|c;{exact h.b x c};.simp at c;subst c;omega
def ShutI(em:W8)(tok:Int)(M:W8):List jj->Prop
 |[]=>True
 |x::l=>if x.1=true then M[x.2.1.toNat]?=some true/\(em.getD x.2.1.toNat false=true->ShutI em tok M l)else tok≠x.2.1
def MoreM(M a:W8):Prop:=∀i:Nat,M[i]?=some true->a[i]?=some true
def ShutI.mono{em:W8}{tok:Int}{M a:W8}(h:MoreM M a):∀{l:Wam jj},ShutI em tok M l->ShutI em tok a l
 |[],_=>trivial
 |x::l,k=>by unfold ShutI at k⊢;split;{rename_i c;rw[if_pos c]at k;exact⟨h _ k.1,λb=>ShutI.mono h (k.2 b)⟩};grind
def CloM(ps:List jk)(em:W8)(tok:Int)(M a:W8):Prop:=∀i:Nat,a[i]?=some true->M[i]?=some true\/∀p∈ps,p.1=(i:Int)->ShutI em tok a p.2.1
def CloM.refl{ps:Wam jk}{em:W8}{tok:Int}(M:W8):CloM ps em tok M M:=λi h=> .inl h
def CloM.trans{ps:Wam jk}{em:W8}{tok:Int}{A B C:W8}(h:CloM ps em tok A B)(k:CloM ps em tok B C)(hm:MoreM B C):CloM ps em tok A C:=λi d=>by rcases k i d with b|b;{rcases h i b with c|c;{grind};.exact .inr λp e a=>(c p e a).mono hm};grind
structure StX(g:jb)(em:List Bool)(tok:Int)(l:List jj)(been:List Bool)(r:Bool×List Bool):Prop where
 ln:r.2.length=g.2.1.length
 c:yw r.2<=yw been
 m:MoreM been r.2
 s:r.1=false->ShutI em tok r.2 l/\CloM g.2.2.1 em tok been r.2
def MoreM.set{M:W8}{z:Nat}:MoreM M (M.set z true):=λi h=>jb4 h
def MoreM.trans{A B C:W8}(h:MoreM A B)(k:MoreM B C):MoreM A C:=λi a=>k i (h i a)
def zuv(g:jb)(H:GOk g)(em:W8)(b6:em.length=g.2.1.length)(tok:Int):∀k l a,yw a<k->a.length=g.2.1.length->(∀x∈l,zdh g x)->l.length<=1000000->Tt Fi.two (λi=>ye i.1 i.2 (g,em,l,tok,a)) (StX g em tok l a)
 |0,_,_,h,_,_,_=>U
 |k+1,l,a,hk,b4,b8,e4=>by
  refine zl4 (b:=λi=>Qw i.1 (ye i.1 i.2) (g,em,l,tok,a)) ?_ λn m=>zrb n m _;unfold Qw;have e7:=H.p;refine Tt.loop (λm s=>∃d e,d<=l.length/\m=l.length-d/\s=(em,l,tok,(d:Int),e,g)/\e.length=g.2.1.length/\yw e<=yw a/\MoreM a e/\CloM g.2.2.1 em tok a e/\(∀M,MoreM e M->ShutI em tok M (l.drop d)->ShutI em tok M l)) l.length Big.two ⟨0,a,U,Wab,rfl,b4,wcs _,λi h=>h,CloM.refl _,λM _ h=>h⟩ λm s⟨d,e,hd,hm,hs,f,Q,C,R,F⟩ nx c0=>?_;subst hs;dsimp only;refine wad (λc=>?_) λc=>Tt.pure ⟨f,Q,C,λ_=>⟨F e (λi h=>h) ?_,R⟩⟩;rotate_left
  {rw[wds U];trivial};have Y:d<l.length:=U;rw[wcy Y]at F;have y:=atN Y;have hx:=b8 _ (wcm Y);generalize l[d]=x at F y hx;refine wac _ y (wab (λP=>wac _ y (Tt.pure ⟨f,Q,C,λh=>⟨F e (λi h=>h) ?_,R⟩⟩)) λP=>?_);{have h:=wcj h;have P:x.1=false:=by{simpa using P};unfold ShutI;grind}
  .have P:x.1=true:=by{simpa using P};obtain⟨i1,i2⟩:=hx;rw[if_pos P]at i2;obtain⟨z,hz⟩:∃z:Nat,x.2.1=z:=⟨x.2.1.toNat,U⟩
   have v:z<e.length:=U;have a7:z<em.length:=U;have O:∀M,MoreM e M->M[z]?=some true->(em[z]=true->ShutI em tok M (l.drop (d+1)))->ShutI em tok M l:=λM hM h1 h2=>F M hM (by
    unfold ShutI;rw[if_pos P,hz,wcz];exact⟨h1,λh=>h2 (by rwa [jg9 a7]at h)⟩)
   refine Tt.J (λs=>∃b o,s=(em,l,tok,(d:Int),b,o,g)/\o.length=g.2.1.length/\yw o<=yw a/\MoreM e o/\(b=false->o[z]?=some true/\CloM g.2.2.1 em tok e o)) (λnq Z=>?_) λs⟨b,o,hs,ho,S,u,hb⟩=>?_
   .refine wac _ y ?_;rw[hz];refine waj v (Tt.at v (wab (λc2=>Z _ ⟨_,_,rfl,f,Q,λi h=>h,λ_=>⟨by rw[wch v,c2],CloM.refl _⟩⟩) λc2=>waj v (wac _ (yu true v) ?_)));have e0:=zgq (by rw[wch v,c2]);have d0:(e.set z true)[z]?=some true:=X;refine Tt.loop (λm s=>∃i w,i<=g.2.2.1.length/\m=g.2.2.1.length-i/\s=(em,(z:Int),tok,(i:Int),w,g)/\w.length=g.2.1.length/\yw w<yw a/\MoreM (e.set z true) w/\CloM g.2.2.1 em tok (e.set z true) w/\∀j p,j<i->g.2.2.1[j]?=some p->p.1=(z:Int)->ShutI em tok w p.2.1) g.2.2.1.length Big.two.fst ⟨0,_,U,Wab,rfl,by rw[wdy];exact f,U,λi h=>h,CloM.refl _,λj p h=>U⟩ λm2 s⟨i,w,hi,e5,hs,T,a2,t,L,a6⟩ ny c7=>?_;subst hs;dsimp only;refine wad (λc3=>?_) λc3=>(Z _ ⟨_,_,rfl,T,U,MoreM.set.trans t,λ_=>⟨t _ d0,λj hj=>?_⟩⟩).fst;rotate_left
    {have a1:∀p∈g.2.2.1,p.1=(z:Int)->ShutI em tok w p.2.1:=λp hp=>by{obtain⟨j,hj⟩:=wdb hp;exact a6 j p (by have:=(wcl.1 hj).1;omega) hj};rcases L j hj with h|h;{by_cases e1:j=z;{subst e1;exact .inr a1};.rw[wdh,if_neg (λh=>e1 h.symm)]at h;exact .inl h};.exact .inr h};have B:i<g.2.2.1.length:=U;have A:=atN B;have b7:=wch B;have D:=wcm B;generalize g.2.2.1[i]=p at A D b7;refine Tt.J (λs=>∃(b:Bool)(I:W8),s=(em,(z:Int),tok,(i:Int),b,I,g)/\I.length=g.2.1.length/\yw I<yw a/\MoreM w I/\(b=false->CloM g.2.2.1 em tok w I/\(p.1=(z:Int)->ShutI em tok I p.2.1))) (λnu a5=>?_) λs⟨b,I,hs,a3,b5,G,hb⟩=>?_;{refine wac _ A (Tt.b1 (wad (λc4=>wac _ A ?_) λc4=>a5 _ ⟨_,_,rfl,T,a2,λi h=>h,λ_=>⟨CloM.refl _,λh=>absurd h c4⟩⟩));have ih:=zuv g H em b6 tok k p.2.1 w U T (H.items p D) (by have:=H.len p D;omega);exact Tt.bind ih.fst.fst λr⟨r1,r2,r3,r4⟩=>a5 _ ⟨_,_,rfl,r1,U,r3,λh=>⟨(r4 h).2,λ_=>(r4 h).1⟩⟩};.subst hs;dsimp only;refine wab (λc5=>(Z _ ⟨_,_,rfl,a3,U,(MoreM.set.trans t).trans G,λh=>X⟩).fst) λc5=>wai ?_;obtain⟨b1,b2⟩:=hb U;refine c7 (g.2.2.1.length-(i+1)) _ U ⟨i+1,I,U,rfl,rfl,a3,b5,t.trans G,L.trans b1 G,λj q hj hq c9=>?_⟩;by_cases b9:j<i;{exact(a6 j q b9 hq c9).mono G};grind
   .subst hs;dsimp only;refine wab (λc5=>Tt.pure ⟨ho,S,C.trans u,λh=>X⟩) λc5=>wac _ y ?_;rw[hz];obtain⟨b1,b2⟩:=hb U;have N:=R.trans b2 u;refine Tt.at a7 (wab (λc6=>Tt.pure ⟨ho,S,C.trans u,λ_=>⟨O o u b1 λh=>?_,N⟩⟩) λc6=>Tt.b1 ?_);{grind};rw[wI U U];refine c0 (l.length-(d+1)) _ U ⟨d+1,o,U,rfl,rfl,ho,S,C.trans u,N,λM hM h=>O M (u.trans hM) (hM _ b1) λ_=>h⟩
def juk{ps:Wam jk}{em:W8}{tok:Int}{M:W8}(c:∀p∈ps,0<=p.1)(f:∀i:Nat,M[i]?=some true->∀p∈ps,p.1=(i:Int)->ShutI em tok M p.2.1){l:Wam jj}(h:FiL em ps tok l):¬ShutI em tok M l:=by induction h with|tok a b=>{intro k;unfold ShutI at k;rw[if_neg (by rw[a];simp)]at k;exact k b}|rule a e g _ d=>{intro k;unfold ShutI at k;rw[if_pos a]at k;have:=c _ e;exact d (f _ k.1 _ e U)}|skip a b _ d=>intro k;unfold ShutI at k;rw[if_pos a]at k;exact d (k.2 b)
def z5b(l:W7)(b:Nat)(g:l.length<=1000000)(o:b<=1000000)(i:∀x∈l,0<=x/\x<=1000000):Tn (λn=>Yy n l (b:Int)) (λr=>r=l.map λx=>x+(b:Int)):=by unfold Yy;refine Tt.b1 (wac _ (mkN g U) ?_);refine Tt.loop (λm s=>∃(k:Nat)(out:W7),k<=l.length/\m=l.length-k/\s=(l,(b:Int),(l.length:Int),(k:Int),out)/\out.length=l.length/\out.take k=(l.take k).map λx=>x+(b:Int)) l.length waa ⟨0,_,U,U,rfl,V,rfl⟩ λm s⟨k,out,p,q,h,f,e⟩ t d=>?_;subst h;dsimp only;refine wab (λc=>?_) (λc=>Tt.pure ?_);{have c:=wci c;have a:k<l.length:=U;have j:=i _ (wcm a);refine wac _ (atN a) (wac _ (vn U) (wac _ (yu _ U) (Tt.b1 ?_)));rw[wI (z:=(k:Int)+1) U U,wI U U];refine d (l.length-(k+1)) _ U ⟨k+1,out.set k (l[k]+b),U,rfl,rfl,by simp[f],?_⟩;rw[wcp a,wdc,<- e,wcp W];congr 1;{rw[List.take_set_of_le U]};.simp};.have c:=wcj c;have:k=l.length:=U;rw[this,wc5,<- f,wc5]at e;exact e
def z9p(l:W7)(b:Nat)(n:l.length<=1000000)(i:b<=1000000)(f:∀x∈l,0<=x/\x<=1000000):Tn (λh=>Yz h l (b:Int)) (λr=>r=l.map λx=>x+(b:Int)):=by unfold Yz;refine Tt.loop (λm s=>∃k:Nat,k<=l.length/\m=l.length-k/\s=(l,(b:Int),(k:Int),(l.take k).map λx=>x+(b:Int))) l.length waa ⟨0,U,U,rfl⟩ λm s⟨k,j,o,e⟩ p d=>?_;subst e;dsimp only;refine wab (λc=>?_) (λc=>Tt.pure ?_);{have c:=wci c;have a:k<l.length:=U;have g:=f _ (wcm a);refine wac _ (atN a) (wac _ (yi W U) (Tt.b1 ?_));rw[wI (z:=(k:Int)+1) U U,wI U U];refine d (l.length-(k+1)) _ U ⟨k+1,U,rfl,?_⟩;rw[wcp a,wdc];rfl};.have c:=wcj c;have:k=l.length:=U;rw[this,wc5]
def Ys(n:jl)(t:Nat)(l:List jh)(j:Nat):jl:=
 (n.1++(zw l).take j,n.2.1++replicate j (t:Int),n.2.2.1++(range j).map (λ(i:Nat)=>decide ((i:Int)∈vk (ql l) 0)),n.2.2.2.1++(range j).map (λ(i:Nat)=>(zzj (ql l) i).map λx=>x+(n.1.length:Int)),n.2.2.2.2.1,())
def zt4(n:jl)(t:Nat)(l:List jh):jl:=
 let m:=Ys n t l (jv (ql l))
 (m.1,m.2.1,m.2.2.1,m.2.2.2.1,n.2.2.2.2.1++(qj (ql l) 0).map (λx=>x+(n.1.length:Int)),())
def Yu(l:List jw):Nat->jl
 |0=>([],[],[],[],[],())
 |k+1=>zt4 (Yu l k) k (l.getD k ([],[],0,())).2.1
def zm2{l:Wam jw}{k:Nat}(a:k<l.length):Yu l (k+1)=zt4 (Yu l k) k (l[k]).2.1:=by show zt4 (Yu l k) k (l.getD k ([],[],0,())).2.1=_;rw[we1,wch a];rfl
structure NetI(k:Nat)(n:jl):Prop where
 o:n.2.1.length=n.1.length
 l:n.2.2.1.length=n.1.length
 f:n.2.2.2.1.length=n.1.length
 ob:∀x∈n.2.1,0<=x/\x<(k:Int)
 fr:∀x∈n.2.2.2.1,RN n.1.length x/\x.length<=512
 fi:RN n.1.length n.2.2.2.2.1
def jig{l:W7}(b:Int)(h:jx l):jx (l.map λx=>x+b):=by unfold jx at h⊢;rw[List.pairwise_map];exact h.imp λh=>U
def jr2{l:W7}{n b m:Nat}(h:RN n l)(hm:b+n<=m):RN m (l.map λx=>x+(b:Int)):=⟨jig _ h.r,λx a=>by
 obtain⟨y,c,rfl⟩:=wc7.1 a;have:=h.b y c;omega⟩
def zyw{n:jl}{t:Nat}{l:Wam jh}{j:Nat}(a:j<=(zw l).length):(Ys n t l j).1.length=n.1.length+j:=by unfold Ys;simp[a]
def NetI.next{k:Nat}{n:jl}(h:NetI k n){l:Wam jh}(j:Y7 l=0):NetI (k+1) (zt4 n k l)/\(zt4 n k l).1.length=n.1.length+(zw l).length:=by
 have e:=zi1 j;have q:=zfl j;have c:(zt4 n k l).1.length=n.1.length+(zw l).length:=by{show(Ys n k l (jv (ql l))).1.length=_;rw[zyw U,e]};refine⟨⟨?_,?_,?_,λx a=>?_,λx a=>?_,?_⟩,c⟩;{rw[c];simp[zt4,Ys,h.o,e]};{rw[c];simp[zt4,Ys,h.l,e]};{rw[c];simp[zt4,Ys,h.f,e]}
 .simp only[zt4,Ys,wcu,List.mem_replicate]at a;rcases a with a|⟨_,rfl⟩
  {have:=h.ob x a;omega};.omega
 .simp only[zt4,Ys,wcu,wc7,web]at a;rcases a with a|⟨i,t,rfl⟩
  {obtain⟨d,p⟩:=h.fr x a;exact⟨d.up U,p⟩};.have g:=z7e (ql l) i;refine⟨jr2 g U,?_⟩;rw[wc1];have:=g.len;omega
 .have d:=h.fi;have g:=jr2 (b:=n.1.length) (m:=(zt4 n k l).1.length) (zem (ql l) 0 (jv (ql l)) U) U;show RN _ (n.2.2.2.2.1++(qj (ql l) 0).map (λx=>x+(n.1.length:Int)));refine⟨?_,λx a=>?_⟩;{unfold jx;rw[wem];refine⟨d.r,jig _ (Yc (ql l) 0).1,λx a y s=>?_⟩;obtain⟨z,hz,rfl⟩:=wc7.1 s;have:=d.b x a;have:=(Yc (ql l) 0).2 z hz;omega};.rcases wcu.1 a with a|a;{exact(d.up U).b x a};.exact g.b x a
def zmo{l:Wam jw}(c:∀t∈l,Y7 t.2.1=0):∀k,k<=l.length->NetI k (Yu l k)/\(Yu l k).1.length<=zdi (l.take k)
 |0,_=>⟨⟨rfl,rfl,rfl,λx b=>by simp[Yu]at b,λx b=>by simp[Yu]at b,RN.nil _⟩,by simp[Yu]⟩
 |k+1,j=>by
  obtain⟨d,f⟩:=zmo c k U;rw[zm2 U,z3r U];have a:=c _ (wcm (show k<l.length by omega));obtain⟨e,g⟩:=d.next a
  refine⟨e,?_⟩;have h:=zi1 a;have i:=zty (zxj a);have:=(Yb a).2;omega
def z5j{l:Wam jw}{P:Wb->Prop}(b:∀t∈l,∀x∈t.2.1,P x.2.1):∀k,k<=l.length->∀s∈(Yu l k).1,P s
 |0,_,s,a=>by simp[Yu]at a
 |k+1,d,s,a=>by rw[zm2 U]at a;simp only[zt4,Ys,wcu]at a;rcases a with a|a;{exact z5j b k U s a};.have a:=wfi a;unfold zw at a;obtain⟨x,c,rfl⟩:=wc7.1 a;exact b _ (wcm (show k<l.length by omega)) x (weo.1 c).1
def z5h{n:jl}{t:Nat}{l:Wam jh}{j:Nat}(a:j<(zw l).length):Ys n t l (j+1)=((Ys n t l j).1++[(zw l)[j]],(Ys n t l j).2.1++[(t:Int)],(Ys n t l j).2.2.1++[decide ((j:Int)∈vk (ql l) 0)],(Ys n t l j).2.2.2.1++[(zzj (ql l) j).map λx=>x+(n.1.length:Int)],n.2.2.2.2.1,()):=by unfold Ys;simp only[wfl,wdc,wc9,wea,wc4];rw[wcp a,List.replicate_succ']
def joh{n:jl}{t:Nat}{l:Wam jh}:Ys n t l 0=n:=by unfold Ys;simp
def jvh(l:Wam jw)(hl:l.length<=50)(D:∀t∈l,Y7 t.2.1=0)(hN:zdi l<=1000):Tn (λnn=>zet nn l) (λr=>r=Yu l l.length):=by
 unfold zet;refine Tt.loop (λm s=>∃(k:Nat)(y:W6)(z:W7)(A:W8)(B:W4)(C:W7),k<=l.length/\m=l.length-k/\s=(l,(l.length:Int),(k:Int),y,z,A,B,C,(Yu l k).1,(Yu l k).2.1,(Yu l k).2.2.1,(Yu l k).2.2.2.1,(Yu l k).2.2.2.2.1)) l.length waa ⟨0,_,_,_,_,_,U,U,rfl⟩ λm s⟨k,y,z,A,B,C,Y,hm,O⟩ nx M=>?_;subst O;dsimp only;refine wab (λc=>?_) (λc=>?_)
 .have c:=wci c;have d:k<l.length:=U;have a:=D _ (wcm d);obtain⟨q,J⟩:=zmo D k Y;have i:=(zmo D (k+1) d).2;have e:=zm2 d;have w:∀{j},j<=l.length->zdi (l.take j)<=1000:=λ{j}T=>by
   refine wdv ?_ hN;have:zdi l=zdi (l.take j)+zdi (l.drop j):=by
    conv=>lhs;rw[<- wdz j l]
    unfold zdi;rw[wdc,List.sum_append]
   omega
  have a0:=w Y;have R:=w (j:=k+1) d;have h:=(q.next a).2;rw[e,h]at i;refine wac _ (atN d) (Tt.b1 ?_);generalize l[k]=t at a e h i⊢;have a9:=zi1 a;have L:=zfl a;refine Waj (jk5 _ a) waa.fst λla I=>?_;subst I;refine Waj (jk9 _ a) waa.fst λse P=>?_;subst P;generalize hn:Yu l k=n at q J h e i⊢;refine Tt.loop (λm s=>∃(j:Nat),j<=(zw t.2.1).length/\m=(zw t.2.1).length-j/\s=(l,(k:Int),t.2.1,(n.1.length:Int),vk (ql t.2.1) 0,(l.length:Int),(k:Int),zw t.2.1,((zw t.2.1).length:Int),(j:Int),y,z,A,B,C,(Ys n k t.2.1 j).1,(Ys n k t.2.1 j).2.1,(Ys n k t.2.1 j).2.2.1,(Ys n k t.2.1 j).2.2.2.1,n.2.2.2.2.1)) (zw t.2.1).length waa.fst ⟨0,U,U,by rw[joh];rfl⟩ λm s⟨j,T,hm,O⟩ ny N=>?_;subst O;dsimp only;have a1:=zyw (n:=n) (t:=k) T;have a2:(Ys n k t.2.1 j).2.1.length=n.1.length+j:=by{simp[Ys,q.o]};have a3:(Ys n k t.2.1 j).2.2.1.length=n.1.length+j:=by{simp[Ys,q.l]};have a4:(Ys n k t.2.1 j).2.2.2.1.length=n.1.length+j:=by{simp[Ys,q.f]};refine wab (λc=>?_) (λc=>?_);{have c:=wci c;have d:j<(zw t.2.1).length:=U;have v:=zj3 (ql t.2.1) 0 (jv (ql t.2.1)) U;have a6:=v.len;have g:=z7e (ql t.2.1) j;have u:=g.len;refine wac _ (atN d) (wac _ (yi W U) (wac _ (yi W U) ?_));refine Waj (Has_ex _ _ (by simpa using(show(vk (ql t.2.1) (0:Nat)).length<=1000000 by omega)) v.r) waa.fst.fst λr hr=>?_;subst hr;refine wac _ (yi W U) ?_;refine Waj (z95 _ a j U) waa.fst.fst λf F=>?_;subst F;refine Waj (z5b _ n.1.length U U λx Q=>by have:=g.b x Q;omega) waa.fst.fst λZ p=>?_;subst p;refine wac _ (yi W U) (Tt.b1 ?_);rw[wI U U];exact N ((zw t.2.1).length-(j+1)) _ U ⟨j+1,U,rfl,by rw[z5h d];rfl⟩};.have c:=wcj c;have G:j=jv (ql t.2.1):=U;have g:=zem (ql t.2.1) 0 (jv (ql t.2.1)) U;have u:=g.len;have a8:=q.fi.len;refine Waj (jgo _ a) waa.fst.fst λf F=>?_;subst F;refine Waj (z5b _ n.1.length (by simpa using(show(qj (ql t.2.1) (0:Nat)).length<=1000000 by omega)) U λx Q=>by have:=g.b x Q;omega) waa.fst.fst λZ p=>?_;subst p;have S:(qj (ql t.2.1) 0).length<=512:=by{simpa using wdv u L};refine wac _ (yi W U) (Tt.b1 ?_);rw[wI U U];exact(M (l.length-(k+1)) _ U ⟨k+1,_,_,_,_,_,U,rfl,by rw[e,G];rfl⟩).fst
 .have H:k=l.length:=by{have c:=wcj c;omega};rw[H];exact Tt.pure rfl
def jfl(l:Wam jw)(hl:l.length<=50)(D:∀t∈l,Y7 t.2.1=0)(hN:zdi l<=1000):Tn (λnn=>zb4 nn l) (λr=>r=Yu l l.length):=by
 unfold zb4;refine Tt.loop (λm s=>∃(k:Nat)(y:W6)(z:W7)(A:W8)(B:W4)(C:W7),k<=l.length/\m=l.length-k/\s=(l,(k:Int),y,z,A,B,C,(Yu l k).1,(Yu l k).2.1,(Yu l k).2.2.1,(Yu l k).2.2.2.1,(Yu l k).2.2.2.2.1)) l.length waa ⟨0,_,_,_,_,_,U,U,rfl⟩ λm s⟨k,y,z,A,B,C,Z,hm,P⟩ nx N=>?_;subst P;dsimp only;refine wab (λc=>?_) (λc=>?_)
 .have c:=wci c;have d:k<l.length:=U;have a:=D _ (wcm d);obtain⟨u,hK⟩:=zmo D k Z;have p:=(zmo D (k+1) d).2;have e:=zm2 d;have w:∀{j},j<=l.length->zdi (l.take j)<=1000:=λ{j}Y=>by
   refine wdv ?_ hN;have:zdi l=zdi (l.take j)+zdi (l.drop j):=by
    conv=>lhs;rw[<- wdz j l]
    unfold zdi;rw[wdc,List.sum_append]
   omega
  have a5:=w Z;have S:=w (j:=k+1) d;have i:=(u.next a).2;rw[e,i]at p;have g:=atN d;refine Tt.b1 (wac _ g ?_);generalize l[k]=t at a e i p g⊢;have b0:=zi1 a;have M:=zfl a;refine Waj (zz4 _ a) waa.fst λse Q=>?_;subst Q;refine wac _ g (Waj (z9g _ a) waa.fst λla I=>?_);subst I;generalize hn:Yu l k=n at u hK i e p⊢;refine Tt.loop (λm s=>∃(j:Nat),j<=(zw t.2.1).length/\m=(zw t.2.1).length-j/\s=(l,(k:Int),(n.1.length:Int),zw t.2.1,vk (ql t.2.1) 0,(j:Int),y,z,A,B,C,(Ys n k t.2.1 j).1,(Ys n k t.2.1 j).2.1,(Ys n k t.2.1 j).2.2.1,(Ys n k t.2.1 j).2.2.2.1,n.2.2.2.2.1)) (zw t.2.1).length waa.fst ⟨0,U,U,by rw[joh];rfl⟩ λm s⟨j,Y,hm,P⟩ ny O=>?_;subst P;dsimp only;have a1:=zyw (n:=n) (t:=k) Y;have a2:(Ys n k t.2.1 j).2.1.length=n.1.length+j:=by{simp[Ys,u.o]};have a3:(Ys n k t.2.1 j).2.2.1.length=n.1.length+j:=by{simp[Ys,u.l]};have a4:(Ys n k t.2.1 j).2.2.2.1.length=n.1.length+j:=by{simp[Ys,u.f]};refine wab (λc=>?_) (λc=>?_);{have c:=wci c;have d:j<(zw t.2.1).length:=U;have L:=zj3 (ql t.2.1) 0 (jv (ql t.2.1)) U;have a7:=L.len;have h:=z7e (ql t.2.1) j;have v:=h.len;refine wac _ (atN d) (wac _ (yi W U) (wac _ (yi W U) ?_));refine Waj (zdd _ _ (by simpa using(show(vk (ql t.2.1) (0:Nat)).length<=1000000 by omega))) waa.fst.fst λr hr=>?_;subst hr;refine wac _ (yi W U) (wac _ g ?_);refine Waj (zyu _ a j U) waa.fst.fst λf F=>?_;subst F;refine Waj (z9p _ n.1.length U U λx R=>by have:=h.b x R;omega) waa.fst.fst λJ q=>?_;subst q;refine wac _ (yi W U) (Tt.b1 ?_);rw[wI U U];exact O ((zw t.2.1).length-(j+1)) _ U ⟨j+1,U,rfl,by rw[z5h d];rfl⟩};.have c:=wcj c;have G:j=jv (ql t.2.1):=U;have h:=zem (ql t.2.1) 0 (jv (ql t.2.1)) U;have v:=h.len;have a9:=u.fi.len;refine wac _ g (Waj (z3h _ a) waa.fst.fst λf F=>?_);subst F;refine Waj (z9p _ n.1.length (by simpa using(show(qj (ql t.2.1) (0:Nat)).length<=1000000 by omega)) U λx R=>by have:=h.b x R;omega) waa.fst.fst λJ q=>?_;subst q;have T:(qj (ql t.2.1) 0).length<=512:=by{simpa using wdv v M};refine wac _ (yi W U) (Tt.b1 ?_);rw[wI U U];exact(N (l.length-(k+1)) _ U ⟨k+1,_,_,_,_,_,U,rfl,by rw[e,G];rfl⟩).fst
 .have H:k=l.length:=by{have c:=wcj c;omega};rw[H];exact Tt.pure rfl
def netK_R{l:Wam jw}(c:∀t∈l,Y7 t.2.1=0)(d:zdi l<=1000):z72 (Yu l l.length)/\zkf (zdi l) 60000 (Yu l l.length)/\∀x∈(Yu l l.length).2.1,0<=x/\x<(l.length:Int):=by obtain⟨h,b⟩:=zmo c l.length (wcs _);rw[wc5]at b;refine⟨?_,⟨b,?_,?_,?_,λx a=>(h.fr x a).2,?_⟩,h.ob⟩;{exact⟨⟨h.o,h.l,h.f,h.fi,λx a=>(h.fr x a).1⟩,λx a=>(h.ob x a).1⟩};{rw[h.o];omega};{rw[h.l];omega};{rw[h.f];omega};.have:=h.fi.len;omega
def jmq{E:Nat->Nat->Bool}(h:Eqv E){k:Nat}(a:k<256):(cls E k<(qx E k).length/\(qx E (k+1)).length=(qx E k).length)\/(cls E k=(qx E k).length/\(qx E (k+1)).length=(qx E k).length+1):=by obtain⟨b,c⟩:=zzx h a;grind
def zh2{d:je}{i:Nat}(hi:i<d.2.2.1.length){c:Nat}(a:c<(d.2.2.1[i]).length):nxt d i (c:Int)=(d.2.2.1[i])[c]:=by show at' (at' d.2.2.1 (i:Int)) (c:Int)=_;rw[yf hi,yf a]
def wrI{z:Int}(a : -9223372036854775808<=z)(b:z<=9223372036854775807):wr .i64 z=z:=zbt a b
def z3l{E:Nat->Nat->Bool}(h:Eqv E){a:Wa}(j:ClsAt E a 256):Tn (λp=>zd9 p a) (λr=>r=true):=by unfold zd9;refine Tt.loop (λm s=>∃k,k<=256/\m=256-k/\s=(((qx E k).length:Int),(k:Int),a)) 256 waa ⟨0,U,Wab,rfl⟩ λm s⟨k,q,t,g⟩ u f=>?_;subst g;dsimp only;refine wad (λc=>?_) λc=>Tt.pure rfl;have b:k<256:=U;have d:atL a.l (k:Int)=some (cls E k:Int):=Qc U (by simpa using j.c k b);have o:=zd2 E k;have n:=jmq h b;refine Tt.J (λs=>s=(((qx E (k+1)).length:Int),(k:Int),a)) (λv e=>?_) λs g=>?_;{refine waj b (wac _ d ?_);rw[wrI U U];refine wae (wc3 U) (waj b (wac _ d ?_));rw[wrI U U];refine wad (λi=>Tt.b1 (e _ ?_)) λi=>e _ ?_;{rw[wI U U];grind};grind};.subst g;dsimp only;refine wai ?_;exact f (256-(k+1)) _ U ⟨k+1,U,rfl,rfl⟩
def znl{E:Nat->Nat->Bool}(h:Eqv E){a:Wa}(f:ClsAt E a 256):Tn (λn=>Jt n a) (λr=>r=((qx E 256).length:Int)):=by unfold Jt;refine Tt.loop (λm s=>∃k,k<=256/\m=256-k/\s=(((qx E k).length:Int),(k:Int),a)) 256 waa ⟨0,U,Wab,rfl⟩ λm s⟨k,o,p,j⟩ q e=>?_;subst j;dsimp only;refine wad (λc=>?_) λc=>Tt.pure ?_;{have b:k<256:=U;have d:atL a.l (k:Int)=some (cls E k:Int):=Qc U (by simpa using f.c k b);have i:=zd2 E k;have g:=jmq h b;refine waj b (wac _ d (Tt.b1 (Tt.b1 ?_)));rw[wrI U U,wI U U,wI U U];refine e (256-(k+1)) _ U ⟨k+1,U,rfl,?_⟩;grind};grind
def z1q{d:je}{E:Nat->Nat->Bool}(h:Eqv E)(o:ClsAt E d.1 256)(L:d.2.1=((qx E 256).length:Int))(w:DSz d)(hm:MOk d)(y:∀x∈d.2.2.2.1, -1<=x):Tn (λB=>zz B d) (λr=>r=true):=by have I:=zd2 E 256;have M:=hm.n0;have t:=hm.lab;have G:=w.n;unfold zz;refine Tt.J (λs=>s=(false,d)) (λC i=>?_) λs b=>?_;{refine Waj (z3l h o) waa λr l=>?_;subst l;refine Tt.b1 (wae rfl (Waj (znl h o) waa λr l=>?_));subst l;refine wae (wc3 U) (wae (wc3 U) (i _ ?_));grind};subst b;refine wae rfl (Tt.loop (λm s=>∃k,k<=d.2.2.1.length/\m=d.2.2.1.length-k/\s=((k:Int),d)) d.2.2.1.length waa ⟨0,U,U,rfl⟩ λm s⟨k,F,A,b⟩ C i=>?_);subst b;dsimp only;refine wad (λc=>?_) λc=>Tt.pure rfl;have g:k<d.2.2.1.length:=U;have a:=atN g;have p:((d.2.2.1[k]).length:Int)=d.2.1:=by{have:=hm.row k U U;rw[yf g]at this;omega};have e:∀c(o:c<(d.2.2.1[k]).length), -1<=(d.2.2.1[k])[c]/\(d.2.2.1[k])[c]<d.2.2.1.length:=λc o=>by{have : -1<=nxt d k (c:Int)/\nxt d k (c:Int)<d.2.2.1.length:=hm.nx k c U U U U;rw[zh2 g o]at this;omega};refine Tt.J (λs=>s=((k:Int),false,d)) (λD j=>?_) λs b=>?_;{refine wac _ a (Tt.b1 (wae (wc3 U) (Tt.at (show k<d.2.2.2.1.length by omega) (j _ ?_))));have:=y _ (wcm (show k<d.2.2.2.1.length by omega));rw[wc3 U]};subst b;refine wae rfl ?_;dsimp only;generalize d.2.2.1[k]=row at a p e;refine Tt.loop (λm s=>∃c,c<=row.length/\m=row.length-c/\s=((k:Int),(c:Int),d)) row.length waa.fst ⟨0,U,Wab,rfl⟩ λm s⟨c,v,z,b⟩ D j=>?_;subst b;dsimp only;refine wad (λu=>?_) λu=>?_;{have f:c<row.length:=U;have H:=e c f;refine Tt.J (λs=>s=((k:Int),(c:Int),false,d)) (λN q=>?_) λs b=>?_;{refine wac _ a (Tt.at f (Tt.b1 (wae (wc3 U) (wac _ a (Tt.at f (q _ ?_))))));grind};.subst b;refine wae rfl (Tt.b1 ?_);dsimp only;rw[wI U U];exact j (row.length-(c+1)) _ U ⟨c+1,U,rfl,rfl⟩};.refine wai ?_;exact(i (d.2.2.1.length-(k+1)) _ U ⟨k+1,U,rfl,rfl⟩).fst
def zkm{d:je}(hR:Tn (λnn=>zz nn d) (λr=>r=true))(hd:DSz d)(hm:MOk d):Tn (λnn=>Q7 nn d) (λr=>r=za9 d.2.2.1.length (dE d) (λi=>i=0)):=by
 have M:0<d.2.2.1.length:=hm.n0;have hn:=hd.n;have hw:=hm.w;have d7:0<=d.2.1:=hw.1;have d8:d.2.1<=256:=hw.2;unfold Q7;refine Waj hR waa λr hr=>?_;subst hr;refine wae rfl (Tt.b1 (wac _ (mkN U U) (wac _ (vn (by simpa using M)) (wac _ (yu (k:=0) true (by simpa using M)) ?_))));generalize hN:d.2.2.1.length=N at M hn⊢;have a7:onB ((replicate N false).set 0 true) 0:=(yp (by simpa using M)).2 (.inl rfl);have c0:offs ((replicate N false).set 0 true)+1=offs (replicate N false):=zla (by simp[M]);have S:=zxc (replicate N false);rw[wck]at S;have b6:∀i,onB ((replicate N false).set 0 true) i->Rch (dE d) (λi=>i=0) i:=λi hi=>by{rcases(yp (by simpa using M)).1 hi with h|h;{exact .base h.symm};.exact absurd h zmx};refine Tt.loop (λm s=>∃(k:Nat)(a:W8),k<=N/\m=N-k/\s=((k:Int),d,a)/\a.length=N/\onB a 0/\(∀i,onB a i->Rch (dE d) (λi=>i=0) i)/\(a=za9 N (dE d) (λi=>i=0)\/offs a+k<=N-1)) N waa ⟨0,_,U,U,rfl,V,a7,b6,.inr U⟩ λm s⟨k,a,hk,d4,A,ha,a3,a5,a4⟩ nx b2=>?_;subst A;dsimp only;rw[ha];refine wab (λc=>?_) λc=>Tt.pure ?_;rotate_left
 {grind};have c:=wci c;refine Tt.loop (λm s=>∃(i:Nat)(b:W8),i<=N/\m=N-i/\s=((k:Int),(i:Int),d,b)/\b.length=N/\LeB a b/\(∀i,onB b i->Rch (dE d) (λi=>i=0) i)/\(a=b->∀o,o<i->∀j,onB a o->dE d o j->onB a j)) N waa.fst ⟨0,a,U,U,rfl,ha,LeB.refl a,a5,λ_ o h=>U⟩ λm s⟨i,b,hi,d3,A,G,f,g,H⟩ ny b3=>?_;subst A;dsimp only;rw[G];refine wab (λP=>?_) λP=>?_
 .have P:=wci P;have a9:i<N:=U;have I:i<d.2.2.1.length:=U;have F:=atN I;have Y:((d.2.2.1[i]).length:Int)=d.2.1:=by{have:=hm.row i U U;rw[yf (l:=d.2.2.1) I]at this;omega};have v:∀(c:Nat)(L:c<(d.2.2.1[i]).length),nxt d i c=(d.2.2.1[i])[c]:=λc L=>zh2 I L;have B:∀(c:Nat)(L:c<(d.2.2.1[i]).length), -1<=(d.2.2.1[i])[c]/\(d.2.2.1[i])[c]<d.2.2.1.length:=λc L=>by{have : -1<=nxt d i (c:Int)/\nxt d i (c:Int)<d.2.2.1.length:=hm.nx i c U U U U;rw[v c L]at this;exact this};generalize d.2.2.1[i]=row at F Y B v;refine Tt.loop (λm s=>∃(c:Nat)(b:W8),c<=row.length/\m=row.length-c/\s=((k:Int),(i:Int),(c:Int),d,b)/\b.length=N/\LeB a b/\(∀i,onB b i->Rch (dE d) (λi=>i=0) i)/\(a=b->∀o,o<i->∀j,onB a o->dE d o j->onB a j)/\(a=b->∀O:Nat,O<c->∀j:Nat,nxt d i O=j->onB a j)) row.length waa.fst.fst ⟨0,b,U,U,rfl,G,f,g,H,λ_ O h=>U⟩ λm s⟨c,b,L,d2,A,G,f,g,H,c9⟩ nz b4=>?_;subst A;dsimp only;have R:i<b.length:=U;refine Tt.J (λs=>s=((k:Int),(i:Int),(c:Int),(b[i] && decide (c<row.length)),d,b)) (λnu u=>?_) λs A=>?_;{rw[G];refine wac _ (vn a9) (wac _ (atN R) (wab (λD=>u _ ?_) λD=>u _ ?_));{rw[D,wes];have:decide ((c:Int)<d.2.1)=decide (c<row.length):=by{rw[decide_eq_decide];omega};rw[this]};.rw[D];rfl};subst A;dsimp only;refine wab (λD=>?_) λD=>Tt.b1 ?_
  .simp only[wco,wc8]at D;obtain⟨b5,y⟩:=D;have hq:=B c y;have b0:=v c y;have T:onB b i:=by{unfold onB;rw[wch R,b5]};refine Tt.J (λs=>∃C,s=((k:Int),(i:Int),(c:Int),d,C)/\C.length=N/\LeB b C/\(∀i,onB C i->Rch (dE d) (λi=>i=0) i)/\∀j:Nat,nxt d i c=j->onB C j) (λnu u=>?_) λs⟨C,A,a6,t,Q,b9⟩=>?_
   .refine wac _ F (wac _ (atN y) (wab (λZ=>?_) λZ=>u _ ⟨b,rfl,G,LeB.refl b,g,λj p=>?_⟩))
    .have Z:=wci Z;obtain⟨z,hz⟩:∃z:Nat,row[c]=(z:Int):=⟨(row[c]).toNat,U⟩
     have x:z<b.length:=U;refine wac _ F (wac _ (atN y) ?_);rw[hz];refine wac _ (vn x) (wac _ (yu true x) (u _ ⟨_,rfl,X,LeB.set x,λj p=>?_,λj p=>?_⟩));{rcases(yp x).1 p with h|h;{subst h;exact .step (g i T) ⟨U,c,U,U,U⟩};grind};.rw[b0,hz]at p;exact(yp x).2 (.inl U)
    grind
   .subst A;dsimp only;refine Tt.b1 ?_;rw[wI U U];refine b4 (row.length-(c+1)) _ U ⟨c+1,C,U,rfl,rfl,a6,f.trans t,Q,λe=>?_,λe O c8 j p=>?_⟩;{have:a=b:=f.antisymm (e▸t);grind};.have c6:a=b:=f.antisymm (e▸t);grind
  .rw[wI U U];refine(b3 (N-(i+1)) _ U ⟨i+1,b,U,rfl,rfl,G,f,g,λe o d1 j p hE=>?_⟩).fst;by_cases h:o=i;{subst h;obtain⟨h1,O,h0,h2,h3⟩:=hE;obtain⟨q,rfl⟩:=wdu h0;have h2:(q:Int)<d.2.1:=h2;have c7:b[o]=true:=by{rw[e]at p;unfold onB at p;grind};grind};grind
 .have P:=wcj P;refine Tt.b1 ?_;rw[wI U U];have a1:Round (dE d) (λi=>i=0) a b:=⟨f,g,λe=>⟨λi hi=>X,λo j p hE=>H e o (by have:=z6f p;omega) j p hE⟩⟩
  exact(b2 (N-(k+1)) _ U ⟨k+1,b,U,rfl,rfl,G,f.2 0 a3,g,a1.next ha a4⟩).fst
def LbR(d:je)(x:Int):Prop:=∃i:Nat,onB (za9 d.2.2.1.length (dE d) (λi=>i=0)) i/\d.2.2.2.1[i]?=some x/\0<=x
def n1{a b c:Nat}(h:a<b-c):c<b:=U
def n2{o k j:Nat}(h:o<=k)(a:j<=o):j+1+(o-j)<=k+1:=U
def zzc(l:W7)(hl:l.length<=1000):Tn (λnn=>zj7 nn l) (λr=>jx r/\∀x,x∈r↔x∈l):=by
 unfold zj7;refine Tt.loop (λm s=>∃(k:Nat)(o:W7),k<=l.length/\m=l.length-k/\s=(l,(k:Int),o)/\o.length<=k/\jx o/\∀x,x∈o↔x∈l.take k) l.length waa ⟨0,_,U,U,rfl,V,List.Pairwise.nil,V⟩ λm s⟨k,o,hk,hm,g,a1,e,d⟩ nx H=>?_;subst g;dsimp only;refine wab (λc=>?_) λc=>?_;rotate_left
 {have c:=wcj c;have:k=l.length:=U;rw[this,wc5]at d;exact Tt.pure ⟨e,d⟩};have c:=wci c;have u:k<l.length:=U;have p:∀x,x∈l.take (k+1)↔x∈l.take k\/x=l[k]:=λx=>by{rw[wcp u,wcu,wcr]};refine Tt.J (λs=>∃o,s=(l,(k:Int),o)/\o.length<=k+1/\jx o/\∀x,x∈o↔x∈l.take (k+1)) (λny z=>?_) λs⟨o,g,N,O,T⟩=>?_;rotate_left
 {subst g;dsimp only;refine Tt.b1 ?_;rw[wI U U];exact H (l.length-(k+1)) _ U ⟨k+1,o,U,rfl,rfl,N,O,T⟩};refine wac _ (atN u) ?_;generalize l[k]=v at p;refine Waj (zdd o v U) waa.fst λr hr=>?_;subst hr;refine wab (λn=>z _ ⟨o,rfl,U,e,λx=>?_⟩) λn=>?_;{have n:=wci n;rw[d,p];exact⟨.inl,λh=>h.elim id λh=>h▸(d v).1 n⟩};have n:=wcj n;refine Tt.loop (λm s=>∃(j:Nat),j<=o.length/\m=o.length-j/\s=(v,(j:Int),o,o.take j)/\∀y∈o.take j,y<v) o.length waa.fst ⟨0,U,U,rfl,V⟩ λm s⟨j,Q,Y,g,F⟩ nz I=>?_;subst g;dsimp only;refine Tt.J (λs=>∃b,s=(v,(j:Int),b,o,o.take j)/\(b=true↔∃h:j<o.length,o[j]<v)) (λnu w=>?_) λs⟨b,g,P⟩=>?_;{refine Tt.b1 (wab (λf=>?_) λf=>w _ ⟨false,rfl,⟨λh=>(by cases h),λh=>?_⟩⟩);{have f:=wci f;have a:j<o.length:=U;refine wac _ (vn a) (wac _ (atN a) (w _ ⟨_,rfl,?_⟩));rw[wc8];exact⟨λh=>⟨a,h⟩,λ⟨_,h⟩=>h⟩};.have f:=wcj f;obtain⟨h,_⟩:=h;omega};subst g;dsimp only;refine wab (λf=>?_) λf=>?_;{obtain⟨a,S⟩:=P.1 f;refine wac _ (vn a) (wac _ (atN a) (wac _ (yi W U) (Tt.b1 ?_)));rw[wI U U];have M:=wcp a;refine I (o.length-(j+1)) _ U ⟨j+1,U,rfl,V,λy C=>?_⟩;rw[M]at C;rcases wcu.1 C with h|h;{exact F y h};.rwa [wcr.1 h]}
 .have a0:∀y∈o.drop j,v<y:=λy C=>by{obtain⟨q,L,rfl⟩:=weh C;rw[List.getElem_drop];rw[wfa]at L;have a:=n1 L;have N:¬o[j]<v:=λh=>by{rw[P.2 ⟨a,h⟩]at f;cases f};have O:o[j]≠v:=λh=>n (h▸wcm a);by_cases h:q=0;{subst h;simp only[wd7];omega};.have:=zpc e (i:=j) (j:=j+q) U U;omega};refine wac _ (yi W U) ?_;have R:(o.take j).length=j:=by{simp[Q]};refine Tt.loop (λm s=>∃(q:Nat),j<=q/\q<=o.length/\m=o.length-q/\s=((q:Int),o,o.take j++[v]++(o.drop j).take (q-j))) (o.length-j) waa.fst.fst ⟨j,wcs _,Q,rfl,X⟩ λm s⟨q,D,L,Z,g⟩ nw G=>?_;subst g;dsimp only;refine wab (λt=>?_) λt=>?_;{have t:=wci t;have A:q<o.length:=U;have B:(o.drop j).take (q+1-j)=(o.drop j).take (q-j)++[o[q]]:=by{rw[show q+1-j=(q-j)+1 from Nat.succ_sub D,wcp X,List.getElem_drop];grind};refine wac _ (vn A) (wac _ (atN A) (wac _ (yi X U) (Tt.b1 ?_)));rw[wI U U];exact G (o.length-(q+1)) _ U ⟨q+1,U,U,rfl,X⟩}
  .have t:=wcj t;have:q=o.length:=U;have B:(o.drop j).take (q-j)=o.drop j:=wd1 X;rw[B];refine(Tt.fst (z _ ⟨_,rfl,X,?_,λx=>?_⟩)).fst;{unfold jx;rw[wc4,wem];have a3:(o.take j).Pairwise (· < ·):=we2 (List.take_sublist _ _) e;have a4:(o.drop j).Pairwise (· < ·):=we2 (List.drop_sublist _ _) e;grind}
   .rw[p,<- d];conv=>rhs;rw[<- wdz j o]
    simp only[wcu,wcr];constructor;{rintro((h|h)|h);{exact .inl (.inl h)};{exact .inr h};.exact .inl (.inr h)};.rintro((h|h)|h);{exact .inl (.inl h)};{exact .inr h};.exact .inl (.inr h)
def zy8{d:je}(G:Tn (λA=>zz A d) (λr=>r=true))(C:DSz d)(hm:MOk d):Tn (λA=>yr A d) (λr=>jx r/\∀x,x∈r↔LbR d x):=by have T:=C.n;have F:=hm.lab;unfold yr;refine Waj (zkm G C hm) waa λr L=>?_;have M:r.length=d.2.2.1.length:=by{rw[L,zap]};refine Tt.loop (λm s=>∃k l,k<=r.length/\m=r.length-k/\s=(r,(k:Int),d,l)/\l.length<=k/\∀x,x∈l↔∃i,i<k/\onB r i/\d.2.2.2.1[i]?=some x/\0<=x) r.length waa ⟨0,_,U,Wab,rfl,V,λx=>⟨λh=>X,λ⟨i,h,_⟩=>U⟩⟩ λm s⟨k,l,P,I,t,D,v⟩ Q y=>?_;subst t;dsimp only;refine wad (λc=>?_) λc=>?_;{have f:k<r.length:=U;have b:k<d.2.2.2.1.length:=U;refine Tt.J (λs=>∃l,s=(r,(k:Int),d,l)/\l.length<=k+1/\∀x,x∈l↔∃i,i<k+1/\onB r i/\d.2.2.2.1[i]?=some x/\0<=x) (λR o=>?_) λs⟨l,t,D,v⟩=>?_;{refine Tt.J (λs=>s=(r,(k:Int),(r[k] && decide (0<=d.2.2.2.1[k])),d,l)) (λS p=>?_) λs t=>?_;{refine Tt.at f (wab (λw=>Tt.at b (p _ ?_)) λw=>p _ ?_);{rw[w,wes]};.rw[w];rfl};.subst t;dsimp only;have u:∀{z:W7},(∀x,x∈z↔x∈l\/(onB r k/\d.2.2.2.1[k]?=some x/\0<=x))->∀x,x∈z↔∃i,i<k+1/\onB r i/\d.2.2.2.1[i]?=some x/\0<=x:=λ{z}h x=>by{rw[h,v];constructor;{rintro(⟨i,j,a⟩|a);{exact⟨i,U,a⟩};.exact⟨k,U,a⟩};.rintro⟨i,j,a⟩;by_cases e:i=k;{subst e;exact .inr a};.exact .inl ⟨i,U,a⟩};refine wab (λg=>?_) λg=>o _ ⟨l,rfl,U,u λx=>⟨.inl,λh=>h.elim id λ⟨j,a,B⟩=>?_⟩⟩;{simp[wco,wc8]at g;refine Tt.at b (wac _ (yi X U) (o _ ⟨_,rfl,W,u λx=>?_⟩));rw[wcu,wcr];refine or_congr Iff.rfl ⟨λh=>?_,λ⟨j,a,B⟩=>?_⟩;{subst h;exact⟨by unfold onB;rw[wch f,g.1],wch b,g.2⟩};.rw[wch b]at a;exact(wd2 a).symm};.unfold onB at j;rw[wch f]at j;rw[wch b]at a;rw[wd2 j,wd2 a,wes]at g;exact absurd B (wcj g)};.subst t;dsimp only;refine wai ?_;exact y (r.length-(k+1)) _ U ⟨k+1,_,U,rfl,rfl,D,v⟩};.have H:k=r.length:=U;refine Waj (zzc l U) waa.fst λq⟨N,O⟩=>Tt.pure ⟨N,λx=>?_⟩;rw[O,v];unfold LbR;grind
def jvx(fd:W4)(x:W7): -1<=(Qe fd x).1/\(Qe fd x).1<((Qe fd x).2.length:Int):=by unfold Qe;split;{omega};.split;{grind};.have:=ji3 (x:=x) (l:=fd) (i:=0);grind
def ji6(sp:Nat->W7):∀cs(fd:W4)(row:W7),(∀y∈row, -1<=y/\y<(fd.length:Int))->(zw1 sp cs fd row).2.length=row.length+cs.length/\∀y∈(zw1 sp cs fd row).2, -1<=y/\y<((zw1 sp cs fd row).1.length:Int)
 |[],fd,row,h=>⟨rfl,h⟩
 |c::cs,fd,row,h=>by have b:=zmf fd (sp c);have d:=jvx fd (sp c);obtain⟨e,a⟩:=ji6 sp cs (Qe fd (sp c)).2 (row++[(Qe fd (sp c)).1]) λy f=>by{grind};refine⟨?_,a⟩;show(zw1 sp cs (Qe fd (sp c)).2 (row++[(Qe fd (sp c)).1])).2.length=_;grind
structure RwOk(W:Nat)(n:Nat)(rows:List (List Int)):Prop where
 w:∀x∈rows,x.length=W
 b:∀x∈rows,∀y∈x, -1<=y/\y<(n:Int)
def z8f{start:Nat->W7}{step:W7->Nat->W7}{tok:W7->Int}{W:Nat}{a:Int}{P:Int->Prop}(g:∀l,P (tok l)):∀{f i:Nat}{fd rows:W4}{labs:W7}{r:W4×W4×W7},(fd.length:Int)<=a->rows.length=i->labs.length=i->i<=fd.length->RwOk W fd.length rows->(∀x∈labs,P x)->jf7 start step tok W a f i fd rows labs=some (some r)->r.2.1.length=r.1.length/\r.2.2.length=r.1.length/\RwOk W r.1.length r.2.1/\∀x∈r.2.2,P x
 |0,_,_,_,_,_,_,_,_,_,_,_,h=>by cases h
 |f+1,i,fd,rows,labs,r,k,n,o,p,d,q,h=>by unfold jf7 at h;by_cases j:i<fd.length;{rw[if_pos j,z9h _ _ _ _ _ k]at h;have s:=zqw (zki start step fd i) (range W) fd [];obtain⟨t,u⟩:=ji6 (zki start step fd i) (range W) fd [] V;by_cases e:((zw1 (zki start step fd i) (range W) fd []).1.length:Int)<=a;{rw[if_pos e]at h;refine z8f g e X X U ⟨λx c=>?_,λx c y m=>?_⟩ (λx c=>?_) h;{rcases wcu.1 c with c|c;{exact d.w x c};grind};{rcases wcu.1 c with c|c;{have:=d.b x c y m;omega};grind};grind};grind};grind
def tokF_b{n:jl}{m t i:Int}(hm:0<=m)(b:∀x∈n.2.1,0<=x/\x<m)(c:n.2.1.length=n.1.length)(d : -1<=t/\t<m): -1<=zg4 n t i/\zg4 n t i<m:=by unfold zg4;split;{rename_i h;have a:i.toNat<n.2.1.length:=U;have e:=b _ (wcm a);grind};omega
def tokS_b{n:jl}{m:Int}(hm:0<=m)(b:∀x∈n.2.1,0<=x/\x<m)(a:n.2.1.length=n.1.length)(l:W7): -1<=zob n l/\zob n l<m:=by unfold zob;split;{have d:∀(l:W7)t, -1<=t/\t<m -> -1<=l.foldl (zg4 n) t/\l.foldl (zg4 n) t<m:=by{intro l;induction l with|nil=>{simp}|cons x l c=>intro t h;exact c _ (tokF_b hm b a h)};grind};omega
def jpu{n:jl}{a:Wa}{W:Nat}(y:W<=256){z:Int}(hz:1<=z){m:Int}(hm:0<=m)(u:∀x∈n.2.1,0<=x/\x<m)(t:n.2.1.length=n.1.length){r:W4×W4×W7}(e:zn5 n a W z 202 0 [[]] [] []=some (some r)):MOk (a,(W:Int),r.2.1,r.2.2,())/\∀x∈r.2.2, -1<=x/\x<m:=by have e:jf7 (λc=>zfg n (zmb a c)) (λl c=>zk1 n l (zmb a c)) (zob n) W z 202 0 [[]] [] []=some (some r):=e;obtain⟨p,v,j,q⟩:=z8f (f:=202) (i:=0) (fd:=[[]]) (rows:=[]) (labs:=[]) (P:=λx=> -1<=x/\x<m) (tokS_b hm u t) (by simpa using hz) rfl rfl V ⟨λx g=>by simp at g,λx g=>by simp at g⟩ (λx g=>by simp at g) e;obtain⟨k,_⟩:=zyl (by simpa using hz) e;have k:1<=r.1.length:=k;refine⟨⟨?_,?_,?_,λi h0 h=>?_,λi c h0 h s d=>?_⟩,q⟩;{show 0<r.2.1.length;omega};{show r.2.2.length=r.2.1.length;omega};{show 0<=(W:Int)/\(W:Int)<=256;omega};{have:=j.w _ (zgd h0 h);show(((at' r.2.1 i).length:Nat):Int)=(W:Int);have:(at' r.2.1 i).length=W:=this;omega};.have o:=j.w _ (zgd h0 h);have o:(at' r.2.1 i).length=W:=o;have d:c<(W:Int):=d;have:=j.b _ (zgd h0 h) _ (zgd (l:=at' r.2.1 i) (z:=c) s U);show -1<=at' (at' r.2.1 i) c/\at' (at' r.2.1 i) c<(r.2.1.length:Int);rw[p];exact this
def ju1{n:jl}{a:Wa}{W:Nat}(d:∃n,ClsN a n)(j:W<=256){z:Int}(hz:1<=z)(f:z<=200):DSz (jnq a (W:Int) (zn5 n a W z 202 0 [[]] [] [])).1:=by cases e:zn5 n a W z 202 0 [[]] [] []with|none=>{exact DSz.zero}|some o=>cases o with|none=>{exact DSz.zero}|some r=>have e:=e;obtain⟨g,h,c,_⟩:=z8f (rows:=[]) (P:=λ_=>True) (λ_=>trivial) U rfl rfl V ⟨λx b=>X,λx b=>X⟩ (λx b=>V) e;obtain⟨_,i⟩:=zyl U e;exact⟨d,⟨by show 0<=(W:Int);omega,by show(W:Int)<=256;omega⟩,by show r.2.1.length<=300;omega,by show r.2.2.length<=300;omega,λx b=>by have:=c.w x b;omega⟩
def zg2{L:Wam jd}(h:(jy L).1=0):∀d∈L,d.1=0:=by induction L with|nil=>{simp}|cons d l a=>unfold jy at h;grind
def z7d{g:jb}(h:gFd g=zd):∀t∈g.1,Y7 t.2.1=0:=λt f=>by have b:(gFd g).1=0:=by{rw[h]};unfold gFd at b;have c:=zg2 b;obtain⟨i,e⟩:=wdb f;have a:=c (zoj g i t) (wcu.2 (.inr (wcu.2 (.inr (wcu.2 (.inl (wcq (i:=i) (by rw[zsv,we6,e];rfl))))))));unfold zoj at a;split at a;{simp at a};split at a;{simp at a};split at a;{simp at a};.rename_i d;exact wd9.1 d
def jfg{g:jb}(h:gFd g=zd):1<=g.2.2.2.2.1:=by
 have a:(gFd g).1=0:=by{rw[h]};unfold gFd at a;have b:=zg2 a;have c:=b (if g.2.2.2.2.1<1\/4096<g.2.2.2.2.1 then(2,0,0,())else zd) (wcu.2 (.inr (wcu.2 (.inl (by
  have:szB g=(if g.2.2.2.2.1<1\/4096<g.2.2.2.2.1 then(2,0,0,())else zd)::(szB g).tail:=rfl;grind)))))
 grind
def zub(g:jb)(l:Wam jj)(r:l.length<=1000000)(h:∀x∈l,zdh g x):Tn (λp=>za8 p g l) (λb=>b=true):=by unfold za8;refine Tt.loop (λm s=>∃d,d<=l.length/\m=l.length-d/\s=(l,(d:Int),g)) l.length waa ⟨0,U,Wab,rfl⟩ λm s⟨d,q,t,j⟩ u i=>?_;subst j;dsimp only;refine wad (λc=>?_) λc=>Tt.pure rfl;have e:d<l.length:=U;have a:=atN e;obtain⟨o,k⟩:=h _ (wcm e);generalize l[d]=x at a o k;refine Tt.J (λs=>s=(l,(d:Int),false,g)) (λv f=>?_) λs j=>?_;{refine wac _ a (Tt.b1 (wae (wc3 U) (wac _ a (wab (λn=>?_) λn=>?_))));{rw[if_pos n]at k;refine wac _ a (wae (wc3 U) (wac _ a (Tt.b1 (wae X (f _ rfl)))))};.rw[if_neg X]at k;refine wac _ a (Tt.b1 (wah X (wac _ a (f _ ?_))));grind};.subst j;refine wae rfl (Tt.b1 ?_);dsimp only;rw[wI U U];exact i (l.length-(d+1)) _ U ⟨d+1,U,rfl,rfl⟩
def jp5{g:jb}{em:W8}{al:W4}(a:FSn g em al){t:Int}:∀{l:Wam jj},inF em al t l->FiL em g.2.2.1 t l
 |[],h=>h.elim
 |x::l,h=>by
  unfold inF at h;by_cases c:x.1=true
  .rw[if_pos c]at h;rcases h with h|⟨b,d⟩
   {obtain⟨p,i,e,f⟩:=a _ t h;exact .rule c i e f};.exact .skip c b (jp5 a d)
  .rw[if_neg c]at h;exact .tok X h
def zxk{g:jb}{em:W8}{al:W4}(d:∀l∈al,RN g.1.length l){t:Int}:∀{l:Wam jj},(∀x∈l,zdh g x)->inF em al t l->0<=t/\t<(g.1.length:Int)
 |[],_,h=>h.elim
 |x::l,a,h=>by
  unfold inF at h;by_cases c:x.1=true
  .rw[if_pos c]at h;rcases h with h|⟨_,e⟩
   {by_cases hz:x.2.1.toNat<al.length;{have:al.getD x.2.1.toNat []=al[x.2.1.toNat]:=X;rw[this]at h;exact(d _ (wcm hz)).b t h};grind};.exact zxk d (λy f=>a y X) e
  .rw[if_neg c]at h;obtain⟨i,j⟩:=a x V;grind
def z0v(g:jb)(P:ze4 g)(hz:gFd g=zd)(d:GOk g)(em:W8)(al:W4)(N:Tn (λn=>Jv n g) (λr=>r=em))(q:em.length=g.2.1.length)(B:∀p∈g.2.2.1,fiC em al p)(D:FRn g em al)(l:Wam jj)(H:l.length<=1000000)(a:∀x∈l,zdh g x):Tn (λn=>zdn n g l) (λr=>RN g.1.length r/\∀t,t∈r↔inF em al t l):=by
 have ht:=d.t;have hr:=d.r;have I:∀i:Nat,Tn (λn=>ye n n (g,em,l,(i:Int),replicate g.2.1.length false)) (λw=>w.1=true↔inF em al (i:Int) l):=λi=>by
  have o:=zlc (zys g d em al q B (i:Int) (yw (replicate g.2.1.length false)+1) l (replicate g.2.1.length false) (wew _) V a H);have C:=zlc (zuv g d em q (i:Int) (yw (replicate g.2.1.length false)+1) l (replicate g.2.1.length false) (wew _) V a H);refine Tt.mono (wbz o C) λw⟨⟨_,_,Z⟩,k2⟩=>⟨Z,λh=>we3 λT=>?_⟩
  obtain⟨k3,k4⟩:=k2.s X;refine juk (λp S=>(d.left p S).1) (λj Q=>?_) (jp5 D.s h) k3;rcases k4 j Q with M|M;{grind};omega
 unfold zdn;refine Tt.J (λs=>s=(l,false,g,[])) (λnx f=>?_) λs y=>?_;{refine Waj (zbw g P) waa λb F=>?_;have G:=F.2 hz;subst G;refine Tt.b1 (wae rfl (Waj (zub g l H a) waa λb F=>f _ ?_));subst F;rfl};.subst y;refine wae rfl (Waj N waa λe O=>?_);subst O;refine Tt.loop (λm s=>∃(i:Nat)(k:W7),i<=g.1.length/\m=g.1.length-i/\s=(l,e,(i:Int),g,k)/\RN g.1.length k/\∀t,t∈k↔inF e al t l/\t<(i:Int)) g.1.length waa ⟨0,[],U,U,rfl,RN.nil _,λt=>⟨λh=>(by cases h),λ⟨o,C⟩=>by have:=zxk D.r a o;omega⟩⟩ λm s⟨i,k,hi,hm,y,A,u⟩ nx f=>?_;subst y;dsimp only;refine wad (λc=>?_) λc=>Tt.pure ⟨A,λt=>?_⟩;{refine Tt.J (λs=>∃z,s=(l,e,(i:Int),g,z)/\RN g.1.length z/\∀t,t∈z↔inF e al t l/\t<(i:Int)+1) (λny v=>?_) λs⟨z,y,o,C⟩=>?_;{refine Tt.b1 (wac _ (mkN U U) ?_);refine Waj (I i) waa.fst λw T=>?_;have R:=A.len;refine wab (λL=>wac _ (yi X U) (v _ ⟨_,rfl,A.snoc U λx Y=>((u x).1 Y).2,λt=>?_⟩)) λL=>v _ ⟨_,rfl,A,λt=>?_⟩;{grind};grind};.subst y;dsimp only;refine wai ?_;exact f (g.1.length-(i+1)) _ U ⟨i+1,z,U,rfl,rfl,o,λt=>X⟩};.rw[u];exact⟨λh=>h.1,λh=>⟨h,by have:=zxk D.r a h;omega⟩⟩
def n3{o k j n:Nat}(h:o<=k+n)(a:j<=o):j+1+(o-j)<=k+1+n:=U
def zlg{n:Nat}(hn:n<=1000){F l:W7}(h0:RN n F)(u:RN n l):Tn (λnn=>Vp nn F l) (λr=>RN n r/\∀x,x∈r↔x∈F\/x∈l):=by
 have hl:=u.len;have a9:=h0.len;unfold Vp;refine Tt.bind (R:=λr=>(jx r/\∀x,x∈r↔x∈F)/\r.length<=1000) ?_ λG⟨⟨Z,O⟩,a7⟩=>?_
 .refine Tt.mono (Tt.call (zzc F U) waa) λr⟨I,L⟩=>⟨⟨I,L⟩,?_⟩
  have:=(RN.len ⟨I,λx hx=>h0.b x ((L x).1 hx)⟩)
  omega
 refine Tt.mono (Q:=λr=>jx r/\∀x,x∈r↔x∈G\/x∈l) ?_ λr⟨I,L⟩=>⟨⟨I,λx hx=>?_⟩,λx=>X⟩
 rotate_left
 {rcases(L x).1 hx with h|h;{exact h0.b x ((O x).1 h)};.exact u.b x h};clear u;refine Tt.loop (λm s=>∃k o,k<=l.length/\m=l.length-k/\s=(l,(k:Int),o)/\o.length<=k+G.length/\jx o/\∀x,x∈o↔x∈G\/x∈l.take k) l.length waa ⟨0,_,U,Wab,rfl,U,Z,V⟩ λm s⟨k,o,hk,hm,g,b4,d,f⟩ nx S=>?_;subst g;dsimp only;refine wab (λc=>?_) λc=>?_;rotate_left
 {have c:=wcj c;have:k=l.length:=U;rw[this,wc5]at f;exact Tt.pure ⟨d,f⟩};have c:=wci c;have z:k<l.length:=U;have t:∀x,x∈l.take (k+1)↔x∈l.take k\/x=l[k]:=λx=>by{rw[wcp z,wcu,wcr]};refine Tt.J (λs=>∃o,s=(l,(k:Int),o)/\o.length<=k+1+G.length/\jx o/\∀x,x∈o↔x∈G\/x∈l.take (k+1)) (λny B=>?_) λs⟨o,g,u,h2,h3⟩=>?_;rotate_left
 {subst g;dsimp only;refine Tt.b1 ?_;rw[wI U U];exact S (l.length-(k+1)) _ U ⟨k+1,o,U,rfl,rfl,u,h2,h3⟩};refine wac _ (atN z) ?_;generalize l[k]=v at t;refine Waj (zdd o v U) waa.fst λr hr=>?_;subst hr;refine wab (λp=>B _ ⟨o,rfl,U,d,λx=>?_⟩) λp=>?_;{have p:=wci p;rw[t,<- or_assoc,<- f];exact⟨.inl,λh=>h.elim id λh=>h▸p⟩};have p:=wcj p;refine Tt.loop (λm s=>∃j,j<=o.length/\m=o.length-j/\s=(v,(j:Int),o,o.take j)/\∀y∈o.take j,y<v) o.length waa.fst ⟨0,U,U,rfl,V⟩ λm s⟨j,hj,b0,g,N⟩ nz T=>?_;subst g;dsimp only;refine Tt.J (λs=>∃b,s=(v,(j:Int),b,o,o.take j)/\(b=true↔∃h,o[j]<v)) (λnu A=>?_) λs⟨b,g,hb⟩=>?_;{refine Tt.b1 (wab (λe=>?_) λe=>A _ ⟨false,rfl,⟨λh=>(by cases h),λh=>?_⟩⟩);{have e:=wci e;have a:j<o.length:=U;refine wac _ (vn a) (wac _ (atN a) (A _ ⟨_,rfl,?_⟩));rw[wc8];exact⟨λh=>⟨a,h⟩,λ⟨_,h⟩=>h⟩};.have e:=wcj e;obtain⟨h,_⟩:=h;omega};subst g;dsimp only;refine wab (λe=>?_) λe=>?_;{obtain⟨a,a6⟩:=hb.1 e;refine wac _ (vn a) (wac _ (atN a) (wac _ (yi W U) (Tt.b1 ?_)));rw[wI U U];have a0:=wcp a;refine T (o.length-(j+1)) _ U ⟨j+1,U,rfl,V,λy H=>?_⟩;rw[a0]at H;rcases wcu.1 H with h|h;{exact N y h};.rwa [wcr.1 h]}
 .have b3:∀y∈o.drop j,v<y:=λy H=>by{obtain⟨q,Y,rfl⟩:=weh H;rw[List.getElem_drop];rw[wfa]at Y;have a:=n1 Y;have u:¬o[j]<v:=λh=>by{rw[hb.2 ⟨a,h⟩]at e;cases e};have h2:o[j]≠v:=λh=>p (h▸wcm a);by_cases h:q=0;{subst h;simp only[wd7];omega};.have:=zpc d (i:=j) (j:=j+q) U U;omega};refine wac _ (yi W U) ?_;have a5:(o.take j).length=j:=by{simp[hj]};refine Tt.loop (λm s=>∃q,j<=q/\q<=o.length/\m=o.length-q/\s=((q:Int),o,o.take j++[v]++(o.drop j).take (q-j))) (o.length-j) waa.fst.fst ⟨j,wcs _,hj,rfl,X⟩ λm s⟨q,M,Y,b2,g⟩ nw P=>?_;subst g;dsimp only;refine wab (λw=>?_) λw=>?_;{have w:=wci w;have C:q<o.length:=U;have D:(o.drop j).take (q+1-j)=(o.drop j).take (q-j)++[o[q]]:=by{rw[show q+1-j=(q-j)+1 from Nat.succ_sub M,wcp X,List.getElem_drop];grind};refine wac _ (vn C) (wac _ (atN C) (wac _ (yi X U) (Tt.b1 ?_)));rw[wI U U];exact P (o.length-(q+1)) _ U ⟨q+1,U,U,rfl,X⟩}
  .have w:=wcj w;have:q=o.length:=U;have D:(o.drop j).take (q-j)=o.drop j:=wd1 X;rw[D];refine(Tt.fst (B _ ⟨_,rfl,X,?_,λx=>?_⟩)).fst;{unfold jx;rw[wc4,wem];have b6:(o.take j).Pairwise (· < ·):=we2 (List.take_sublist _ _) d;have b7:(o.drop j).Pairwise (· < ·):=we2 (List.drop_sublist _ _) d;grind}
   .rw[t,<- or_assoc,<- f];conv=>rhs;rw[<- wdz j o]
    grind
def sliD'{α:Type}{l:Wam α}{k:Nat}(h:k<=l.length):znc l (some (k:Int)) none=some (l.drop k):=by unfold znc bdN;grind
structure EmA(g:jb)(em:List Bool)(al:List (List Int)):Prop where
 e:Tn (λnn=>Jv nn g) (λr=>r=em)
 l:em.length=g.2.1.length
 f:∀p∈g.2.2.1,fiC em al p
structure FoS(g:jb)(B out:List (List Int)):Prop where
 l:out.length=g.2.1.length
 n:∀r∈out,RN (g.1.length+1) r
 s:∀i:Nat,∀t∈out.getD i [],t∈B.getD i []
def FoS.at{g:jb}{B out:W4}(h:FoS g B out){i:Nat}(hi:i<out.length):RN (g.1.length+1) out[i]/\∀t∈out[i],t∈B.getD i []:=by refine⟨h.n _ (wcm hi),λt a=>h.s i t ?_⟩;grind
def FoS.set{g:jb}{B out:W4}(h:FoS g B out){i:Nat}{r:W7}(d:RN (g.1.length+1) r)(e:∀t∈r,t∈B.getD i []):FoS g B (out.set i r):=by refine⟨by rw[wdy];exact h.l,λx c=>?_,λj t a=>?_⟩;{rcases weg c with b|b;{exact h.n x b};grind};.simp[List.getD,wdh]at a;split at a;{grind};.exact h.s j t a
def z9n(g:jb)(u:ze4 g)(hz:gFd g=zd)(em:W8)(q:Tn (λo=>Jv o g) (λr=>r=em))(k:em.length=g.2.1.length)(l:Wam jj)(p:l.length<=1000000)(d:∀x∈l,zdh g x):Tn (λo=>zcm o g l) (λb=>b=true↔∀x∈l,x.1=true/\em[x.2.1.toNat]?=some true):=by unfold zcm;refine Tt.J (λb=>b=true↔∀x∈l,x.1=true/\em[x.2.1.toNat]?=some true) (λy m=>?_) λs w=>Tt.pure w;refine Waj (zbw g u) waa λb c=>?_;have j:=c.2 hz;subst j;refine wah rfl (Waj (zub g l p d) waa λb c=>?_);subst c;refine wah rfl (Waj q waa λe t=>?_);subst t;refine Waj (ji8 g l e false p k d) waa λb c=>m _ (Iff.trans c ?_);constructor;{intro h x n;obtain⟨f,i⟩:=h x n;have a:x.1=true:=by{cases v:x.1 with|true=>{rfl}|false=>exact absurd (i v) V};exact⟨a,f a⟩};.intro h x n;obtain⟨f,i⟩:=h x n;exact⟨λ_=>i,λa=>by rw[f]at a;cases a⟩
structure EmX(g:jb)(em:List Bool)(al:List (List Int)):Prop extends EmA g em al where
 x:FRn g em al
def jd2(g:jb)(i:ze4 g)(hz:gFd g=zd)(a:GOk g){em:W8}{al:W4}(c:EmX g em al){p:jk}(j:p∈g.2.2.1){k:Nat}(u:k<p.2.1.length):Tn (λo=>zcg o g p (k:Int)) (λr=>RN g.1.length r.1/\(∀t,t∈r.1↔inF em al t (p.2.1.drop (k+1)))/\(r.2.1=true↔∀x∈p.2.1.drop (k+1),x.1=true/\em[x.2.1.toNat]?=some true)):=by have v:=a.len p j;have d:∀x∈p.2.1.drop (k+1),zdh g x:=λx n=>a.items p j x (wfj n);have h:(p.2.1.drop (k+1)).length<=1000000:=by{rw[wfa];omega};unfold zcg;rw[wI U U];refine wac _ (sliD' (k:=k+1) U) ?_;refine Waj (z0v g i hz a em al c.e c.l c.f c.x _ h d) waa λr⟨q,s⟩=>?_;exact Waj (z9n g i hz em c.e c.l _ h d) waa λb m=>Tt.pure ⟨q,s,m⟩
def jhg(T:Nat):∀l:W4,Vb T l<=l.length*T
 |[]=>by simp[Vb]
 |a::l=>by have:=jhg T l;simp only[Vb,wd3,Nat.succ_mul];omega
def jfe(g:jb)(hg:ze4 g)(hz:gFd g=zd)(G:GOk g){em re:W8}{al B:W4}(hA:EmX g em al)(e0:Tn (λnn=>zj nn g) (λr=>r=re))(k7:re.length=g.2.1.length)(a4:(g.1.length:Int)∈B.getD g.2.2.2.1.toNat [])(d4:∀p∈g.2.2.1,re[p.1.toNat]?=some true->foC em al B p):Tn (λnn=>Yf nn g) (λo=>FoS g B o/\(g.1.length:Int)∈o.getD g.2.2.2.1.toNat []/\∀p∈g.2.2.1,re[p.1.toNat]?=some true->foC em al o p):=by
 have ht:=G.t;have hr:=G.r;have hp:=G.p;unfold Yf;refine Waj (zbw g hg) waa λb hb=>?_;have e6:=hb.2 hz;subst e6;refine wae rfl (Waj e0 waa λw hw=>?_);subst hw;refine Tt.loop (λm s=>∃(d:Nat),d<=g.2.1.length/\m=g.2.1.length-d/\s=(w,(d:Int),g,replicate d ([]:W7))) g.2.1.length waa ⟨0,U,U,rfl⟩ λm s⟨d,hd,hm,H⟩ nx g3=>?_;subst H;dsimp only;refine wab (λc=>?_) λc=>?_;{have c:=wci c;refine wac _ (yi W U) (Tt.b1 ?_);rw[wI U U];exact g3 (g.2.1.length-(d+1)) _ U ⟨d+1,U,rfl,by rw[List.replicate_succ'];rfl⟩};have c:=wcj c;have e8:d=g.2.1.length:=U;subst e8;obtain⟨st,g9⟩:∃st:Nat,g.2.2.2.1=st:=⟨g.2.2.2.1.toNat,by have:=G.start;omega⟩
 have g8:=G.start.2;rw[g9]at g8 a4⊢;rw[wcz]at a4⊢;have Y:st<(replicate g.2.1.length ([]:W7)).length:=W;refine wac _ (vn Y) (wac _ (yu _ Y) ?_);have h0:FoS g B (replicate g.2.1.length []):=⟨V,λr h=>by rw[List.eq_of_mem_replicate h];exact RN.nil _,λi t h=>by
  simp only[List.getD,wee]at h;split at h<;>cases h⟩
 have h0:=h0.set (i:=st) (r:=[(g.1.length:Int)]) (RN.one U U) λt h=>by{rw[wcr.1 h];exact a4};have h1:(g.1.length:Int)∈((replicate g.2.1.length ([]:W7)).set st [(g.1.length:Int)]).getD st []:=by{simp only[List.getD,wdh];simp at Y;simp[Y]};generalize (replicate g.2.1.length ([]:W7)).set st [(g.1.length:Int)]=o0 at h0 h1⊢;refine Tt.J (λo=>FoS g B o/\(g.1.length:Int)∈o.getD st []/\∀p∈g.2.2.1,w[p.1.toNat]?=some true->foC em al o p) (λnf g1=>?_) λs H=>Tt.pure H;obtain⟨M,hM⟩:∃M:Nat,M=g.2.1.length*(g.1.length+1):=⟨_,rfl⟩
 have i4:M<=5000:=by{rw[hM];exact wdv (Nat.mul_le_mul hr (Nat.succ_le_succ ht)) Wah};have a8:∀o,FoS g B o->Vb (g.1.length+1) o<=M:=λo I=>by{have:=jhg (g.1.length+1) o;rwa [I.l,<- hM]at this};have d9:T.w64 ((g.2.1.length:Int)*T.w64 ((g.1.length:Int)+1))=(M:Int):=by{have e:(g.2.1.length:Int)*((g.1.length:Int)+1)=(M:Int):=by{rw[hM];simp};rw[wI (z:=(g.1.length:Int)+1) U U,e,wI U U]};refine Tt.loop (λm s=>∃(n:Nat)(o:W4),m=M+1-n/\s=(w,(n:Int),g,o)/\FoS g B o/\(g.1.length:Int)∈o.getD st []/\n+Vb (g.1.length+1) o<=M) (M+1) waa.fst ⟨0,o0,U,rfl,h0,h1,by have:=a8 o0 h0;omega⟩ λm s⟨n,C,hm,H,g7,e9,k4⟩ ny g4=>?_;subst H;dsimp only;rw[d9];refine wah (wdf U) ?_;refine Tt.loop (λm s=>∃(fr:Bool)(i:Nat)(o:W4),i<=g.2.2.1.length/\m=g.2.2.1.length-i/\s=(w,(n:Int),fr,(i:Int),g,o)/\FoS g B o/\(g.1.length:Int)∈o.getD st []/\(fr=true->Vb (g.1.length+1) o<Vb (g.1.length+1) C)/\(fr=false->o=C/\∀(j:Nat)(p:jk),j<i->g.2.2.1[j]?=some p->w[p.1.toNat]?=some true->foC em al C p)) g.2.2.1.length waa.fst.fst ⟨false,0,C,U,U,rfl,g7,e9,λh=>(by cases h),λ_=>⟨rfl,λj p h=>U⟩⟩ λm s⟨fr,i,o,hi,hm,H,I,D,F,a⟩ nz g5=>?_;subst H;dsimp only;refine wab (λc2=>?_) λc2=>wab (λL=>?_) λL=>Tt.b1 ?_;rotate_left
 {have c2:=wcj c2;have hf:fr=false:=by{simpa using L};obtain⟨rfl,e7⟩:=a hf;refine(g1 _ ⟨I,D,λp P hw=>?_⟩).fst.fst;obtain⟨j,hj⟩:=wdb P;exact e7 j p (by have:=(wcl.1 hj).1;omega) hj hw};{have hf:fr=true:=by{simpa using L};have:=F hf;rw[wI U U];exact(g4 (M+1-(n+1)) _ U ⟨n+1,o,rfl,rfl,I,D,U⟩).fst};have c2:=wci c2;have a6:i<g.2.2.1.length:=U;have A:g.2.2.1[i]∈g.2.2.1:=wcm a6;have b7:g.2.2.1[i]?=some g.2.2.1[i]:=wch a6;refine wac _ (atN a6) ?_;generalize g.2.2.1[i]=p at A b7⊢;obtain⟨l0,l1⟩:=G.left p A;have k5:=G.len p A;obtain⟨q,hq⟩:∃q:Nat,p.1=q:=⟨p.1.toNat,U⟩
 have a7:q<w.length:=U;refine Tt.loop (λm s=>∃(fr:Bool)(k:Nat)(o:W4),k<=p.2.1.length/\m=p.2.1.length-k/\s=(w,(n:Int),fr,(i:Int),(k:Int),g,o,p)/\FoS g B o/\(g.1.length:Int)∈o.getD st []/\(fr=true->Vb (g.1.length+1) o<Vb (g.1.length+1) C)/\(fr=false->o=C/\(∀(j:Nat)(p:jk),j<i->g.2.2.1[j]?=some p->w[p.1.toNat]?=some true->foC em al C p)/\∀(j:Nat)(x:jj),j<k->p.2.1[j]?=some x->x.1=true->∀t,inT em al (C.getD p.1.toNat []) t (p.2.1.drop (j+1))->t∈C.getD x.2.1.toNat [])) p.2.1.length waa.fst.fst.fst ⟨fr,0,o,U,U,rfl,I,D,F,λh=>⟨(a h).1,(a h).2,λj x h=>U⟩⟩ λm s⟨fr,k,o,hk,hm,H,I,D,F,a⟩ nw g2=>?_;subst H;dsimp only;refine Tt.J (λs=>∃b,s=(w,(n:Int),fr,(i:Int),(k:Int),b,g,o,p)/\(b=true↔k<p.2.1.length/\w[q]?=some true)) (λnu c0=>?_) λs⟨b,H,hb⟩=>?_;{rw[hq];refine wac _ (atN a7) (wab (λL=>c0 _ ⟨_,rfl,?_⟩) λL=>c0 _ ⟨_,rfl,?_⟩);{rw[wch a7,L,wc8];simp};.rw[wch a7,L];simp};subst H;dsimp only;refine wab (λL=>?_) λL=>Tt.b1 ?_;rotate_left
 {rw[wI U U];refine(g5 (g.2.2.1.length-(i+1)) _ U ⟨fr,i+1,o,U,rfl,rfl,I,D,F,λh=>⟨(a h).1,λj p2 hj P hw=>?_⟩⟩).fst;obtain⟨_,f2,f3⟩:=a h;by_cases f7:j<i;{exact f2 j p2 f7 P hw};.have:j=i:=U;subst this;rw[b7]at P;cases P;rw[hq,wcz]at hw;have N:¬k<p.2.1.length:=λf9=>by{rw[hb.2 ⟨f9,hw⟩]at L;cases L};exact λj2 x hx=>f3 j2 x (by have:=(wcl.1 hx).1;omega) hx};obtain⟨N,h7⟩:=hb.1 L;have f1:=d4 p A (by rw[hq,wcz];exact h7);have a5:p.2.1[k]?=some p.2.1[k]:=wch N;have c6:=G.items p A _ (wcm N);have b4:=atN N;generalize p.2.1[k]=x at a5 c6 b4;refine Tt.J (λs=>∃(fr:Bool)(o:W4),s=(w,(n:Int),fr,(i:Int),(k:Int),g,o,p)/\FoS g B o/\(g.1.length:Int)∈o.getD st []/\(fr=true->Vb (g.1.length+1) o<Vb (g.1.length+1) C)/\(fr=false->o=C/\(∀(j:Nat)(p:jk),j<i->g.2.2.1[j]?=some p->w[p.1.toNat]?=some true->foC em al C p)/\∀(j:Nat)(x:jj),j<k+1->p.2.1[j]?=some x->x.1=true->∀t,inT em al (C.getD p.1.toNat []) t (p.2.1.drop (j+1))->t∈C.getD x.2.1.toNat [])) (λnv c1=>?_) λs⟨fr,o,H,I,D,F,a⟩=>?_;rotate_left
 {subst H;dsimp only;refine Tt.b1 ?_;rw[wI U U];exact g2 (p.2.1.length-(k+1)) _ U ⟨fr,k+1,o,U,rfl,rfl,I,D,F,a⟩};have a0:(x.1=true->∀t,inT em al (C.getD p.1.toNat []) t (p.2.1.drop (k+1))->t∈C.getD x.2.1.toNat [])->(∀(j:Nat)(x:jj),j<k->p.2.1[j]?=some x->x.1=true->∀t,inT em al (C.getD p.1.toNat []) t (p.2.1.drop (j+1))->t∈C.getD x.2.1.toNat [])->∀(j:Nat)(x:jj),j<k+1->p.2.1[j]?=some x->x.1=true->∀t,inT em al (C.getD p.1.toNat []) t (p.2.1.drop (j+1))->t∈C.getD x.2.1.toNat []:=λh1 h2 j y hj hy=>by{by_cases f8:j<k;{exact h2 j y f8 hy};.have:j=k:=U;subst this;rw[a5]at hy;cases hy;exact h1};refine wac _ b4 (wab (λcx=>c1 _ ⟨_,_,rfl,I,D,F,λh=>⟨(a h).1,(a h).2.1,a0 (λh2=>by rw[h2]at cx;cases cx) (a h).2.2⟩⟩) λcx=>?_);have cx:x.1=true:=by{simpa using cx};obtain⟨i1,i2⟩:=c6;rw[if_pos cx]at i2;obtain⟨z,Z⟩:∃z:Nat,x.2.1=z:=⟨x.2.1.toNat,U⟩
 have f:z<o.length:=by{rw[I.l];omega};have S:q<o.length:=by{rw[I.l];omega};have f6:∀t,inT em al (B.getD q []) t (p.2.1.drop (k+1))->t∈B.getD z []:=λt h=>by{have:=f1 k x a5 cx t (by rw[hq,wcz];exact h);rwa [Z,wcz]at this};refine Waj (jd2 g hg hz G hA A N) waa.fst.fst.fst.fst λr⟨r1,r2,r3⟩=>?_;obtain⟨h9,i0⟩:=I.at S;refine Tt.J (λs=>∃u:W7,s=(w,(n:Int),fr,(i:Int),(k:Int),u,g,o,p,x)/\RN (g.1.length+1) u/\∀t,t∈u↔inT em al o[q] t (p.2.1.drop (k+1))) (λna b8=>?_) λs⟨u,H,hu,c5⟩=>?_
 .refine wab (λcv=>?_) λcv=>b8 _ ⟨_,rfl,r1.up U,λt=>by
   rw[zhq,r2];exact⟨.inl,λh=>h.elim id λh=>by rw[r3.2 h.1]at cv;cases cv⟩⟩
  rw[hq];refine wac _ (vn S) (wac _ (atN S) ?_);refine Waj (zlg (n:=g.1.length+1) U (r1.up U) h9) waa.fst.fst.fst.fst λv⟨v1,v2⟩=>b8 _ ⟨_,rfl,v1,λt=>?_⟩;rw[v2,zhq,r2];exact⟨λh=>h.imp id λh=>⟨r3.1 cv,h⟩,λh=>h.imp id λh=>h.2⟩
 .subst H;dsimp only;rw[Z];obtain⟨o1,o2⟩:=I.at f;refine wac _ (vn f) (wac _ (atN f) ?_);refine Waj (zlg (n:=g.1.length+1) U hu o1) waa.fst.fst.fst.fst λv⟨v1,v2⟩=>?_;have d7:∀t∈u,t∈B.getD z []:=λt h=>f6 t (z1j (λy hy=>i0 y hy) ((c5 t).1 h));have g6:FoS g B (o.set z v):=I.set v1 λt h=>((v2 t).1 h).elim (d7 t) (o2 t);have a1:∀t∈o[z],t∈v:=λt h=>(v2 t).2 (.inr h);have b5:(g.1.length:Int)∈(o.set z v).getD st []:=jch f a1 D;obtain⟨s1,s2⟩:=zjf o1.r v1.r a1;have Q:v.length<=o[z].length->o.set z v=o/\∀t∈u,t∈o[z]:=λh=>by{have e:=s2 h;refine⟨?_,λt h6=>by rw[e];exact(v2 t).2 (.inl h6)⟩;rw[<- e];exact List.set_getElem_self f};have O:o[z].length<v.length->Vb (g.1.length+1) (o.set z v)<Vb (g.1.length+1) o:=λh=>zlf (wch f) h v1.len;have k3:Vb (g.1.length+1) (o.set z v)<=Vb (g.1.length+1) o:=by{by_cases h:o[z].length<v.length;{exact Nat.le_of_lt (O h)};.rw[(Q U).1];exact wcs _};refine Tt.J (λs=>∃f2:Bool,s=(w,(n:Int),f2,(i:Int),(k:Int),v,g,o,p,x)/\(f2=true↔fr=true\/o[z].length<v.length)) (λnb b9=>wab (λc4=>b9 _ ⟨_,rfl,by simp[c4]⟩) λc4=>?_) λs⟨f2,H,b6⟩=>?_;{refine wac _ (vn f) (wac _ (atN f) (b9 _ ⟨_,rfl,?_⟩));rw[wc8,c4];simp};.subst H;dsimp only;rw[Z];refine wac _ (vn f) (wac _ (yu _ f) (c1 _ ⟨_,_,rfl,g6,b5,λh=>?_,λh=>?_⟩));{rcases b6.1 h with h2|h2;{have:=F h2;omega};.have:=O h2;cases R:fr with|true=>{have:=F R;omega}|false=>rw[(a R).1]at this⊢;exact this};.have h3:¬(fr=true\/o[z].length<v.length):=λh4=>by{rw[b6.2 h4]at h;cases h};have R:fr=false:=by{cases hh:fr with|false=>{rfl}|true=>exact absurd (.inl hh) h3};obtain⟨e1,f4,f5⟩:=a R;obtain⟨e2,e3⟩:=Q (Nat.le_of_not_lt λh4=>h3 (.inr h4));subst e1;refine⟨e2,f4,a0 (λ_ t h5=>?_) f5⟩;rw[Z,wcz];rw[hq,wcz]at h5;have e4:o.getD q []=o[q]:=by{simp[List.getD,S]};have e5:o.getD z []=o[z]:=by{simp[List.getD,f]};rw[e4]at h5;rw[e5];exact e3 t ((c5 t).2 h5)
def js9{ps:Wam jk}{st:Nat}{en:Int}{em re:W8}{al o:W4}(h0:en∈o.getD st [])(c:∀p∈ps,re[p.1.toNat]?=some true->foC em al o p){i:Nat}{t:Int}(h:FoL ps st en em re al i t):t∈o.getD i []:=by induction h with|fin=>{omega}|step B d e f a _ b g=>exact c _ d e _ _ f a _ (z1j g b)
def z84(g:jb)(w:ze4 g)(hz:gFd g=zd)(f:GOk g){em re:W8}{al B:W4}(v:EmX g em al)(e:Tn (λk=>zj k g) (λr=>r=re))(j:re.length=g.2.1.length)(d:B.length=g.2.1.length)(m:FoR g em re al (g.1.length+1) B)(c:(g.1.length:Int)∈B.getD g.2.2.2.1.toNat [])(a:∀p∈g.2.2.1,re[p.1.toNat]?=some true->foC em al B p):Tn (λk=>Yf k g) (λo=>o=B):=
 Tt.mono (jfe g w hz f v e j c a) λo⟨b,q,u⟩=>jm8 b.l d b.n m.r λi t=>⟨b.s i t,λh=>js9 q u (m.s i t h)⟩
def PrE(g:jb)(em:W8)(al B:W4)(p:jk)(r:W7):Prop:=RN (g.1.length+1) r/\∀t,t∈r↔inT em al (B.getD p.1.toNat []) t p.2.1
section
variable{g:jb}(hg:ze4 g)(hz:gFd g=zd)(hok:GOk g){em:List Bool}{al B:List (List Int)}(hA:EmX g em al)(hF:Tn (fun nn => Yf nn g) (fun o => o=B))(hBl:B.length=g.2.1.length)(hBr:∀l ∈ B, RN (g.1.length + 1) l)
include hg hz hok hA hF hBl hBr
def jah{k:Nat}(z:k<g.2.2.1.length):Tn (λL=>Yr L g (k:Int)) (PrE g em al B g.2.2.1[k]):=by
 have P:=hok.t;have c:=atN z;have a:=wcm z;unfold Yr;generalize g.2.2.1[k]=p at c a;have d:=hok.items p a;have H:=hok.len p a;obtain⟨Q,R⟩:=hok.left p a;obtain⟨q,A⟩:∃q:Nat,p.1=q:=⟨p.1.toNat,U⟩
 refine Tt.J (λs=>s=((k:Int),false,g)) (λS w=>?_) λs y=>?_;{refine Waj (zbw g hg) waa λb n=>?_;have u:=n.2 hz;subst u;refine Tt.b1 (wae rfl (wae (wc3 U) (w _ ?_)));grind}
 .subst y;refine wae rfl (wac _ c ?_);have m:=z0v g hg hz hok em al hA.e hA.l hA.f hA.x _ U d;refine Waj m waa λr⟨C,D⟩=>(Tt.J (PrE g em al B p) (λT i=>?_) λs y=>Tt.pure y)
  refine wac _ c (Waj (z9n g hg hz em hA.e hA.l _ U d) waa λb n=>wab (λcv=>?_) λcv=>i _ ⟨C.up U,λt=>?_⟩);rotate_left
  {rw[zhq,D];exact⟨.inl,λh=>h.elim id λh=>by rw[n.2 h.1]at cv;cases cv⟩};refine Waj hF waa λo I=>wac _ c ?_;subst I;have j:q<o.length:=U;rw[A];refine Tt.at j ?_;have M:=hBr _ (wcm j);have G:=zlg U (C.up U) M;refine Waj G waa λv⟨N,O⟩=>i _ ⟨N,λt=>?_⟩;have F:o.getD q []=o[q]:=X;rw[O,zhq,D,A,wcz,F];grind
def zn0:Tn (λj=>Vg j g) (λr=>r.length=g.2.2.1.length/\∀(k:Nat)p l,g.2.2.1[k]?=some p->r[k]?=some l->PrE g em al B p l):=by have v:=hok.p;unfold Vg;refine Tt.loop (λm s=>∃(d:Nat)(o:W4),d<=g.2.2.1.length/\m=g.2.2.1.length-d/\s=((d:Int),g,o)/\o.length=d/\∀(k:Nat)p l,g.2.2.1[k]?=some p->o[k]?=some l->PrE g em al B p l) g.2.2.1.length waa ⟨0,[],U,Wab,rfl,rfl,λk p l _ h=>X⟩ λm s⟨d,o,t,u,i,f,e⟩ x b=>?_;subst i;dsimp only;refine wad (λc=>?_) λc=>Tt.pure ⟨X,e⟩;have a:d<g.2.2.1.length:=U;refine Waj (jah hg hz hok hA hF hBl hBr a) waa.fst λr w=>wac _ (yi X U) (wai ?_);refine b (g.2.2.1.length-(d+1)) _ U ⟨d+1,_,U,rfl,rfl,X,λk p l n q=>?_⟩;grind
end
structure PdL(g:jb)(em:List Bool)(al B:List (List Int))(r t:Int)(d:Nat)(f:List Int):Prop where
 rs:jx f
 i:∀x,x∈f↔∃(k:Nat)(p:jk),x=(k:Int)/\k<d/\g.2.2.1[k]?=some p/\p.1=r/\inT em al (B.getD p.1.toNat []) t p.2.1
def zp6{g:jb}(hok:GOk g){em:W8}{al B:W4}{a:W4}(O:a.length=g.2.2.1.length)(C:∀(k:Nat)p l,g.2.2.1[k]?=some p->a[k]?=some l->PrE g em al B p l)(r t:Int):Tn (λM=>Qs M g a r t) (PdL g em al B r t g.2.2.1.length):=by
 have Y:=hok.t;have T:=hok.p;unfold Qs;refine Tt.loop (λm s=>∃d f,d<=g.2.2.1.length/\m=g.2.2.1.length-d/\s=(a,r,t,(d:Int),g,f)/\PdL g em al B r t d f/\f.length<=d) g.2.2.1.length waa ⟨0,[],U,Wab,rfl,⟨by simp[jx],λx=>⟨λh=>X,λ⟨k,_,_,h,_⟩=>U⟩⟩,V⟩ λm s⟨d,f,P,S,w,o,I⟩ Z A=>?_;subst w;dsimp only;refine wad (λc=>?_) λc=>Tt.pure ?_;rotate_left
 {grind};have n:d<g.2.2.1.length:=U;have j:d<a.length:=U;have e:=atN n;have q:=wch n;generalize g.2.2.1[d]=p at e q;obtain⟨N,q2⟩:=C d p _ q (wch j);refine Tt.J (λs=>∃f,s=(a,r,t,(d:Int),g,f)/\PdL g em al B r t (d+1) f/\f.length<=d+1) (λny u=>?_) λs⟨f,w,D,F⟩=>?_;{refine Tt.J (λs=>∃b,s=(a,r,t,(d:Int),b,g,f)/\(b=true↔p.1=r/\inT em al (B.getD p.1.toNat []) t p.2.1)) (λnz v=>?_) λs⟨b,w,G⟩=>?_;{refine wac _ e (Tt.b1 (wad (λz=>Tt.at j ?_) λz=>v _ ⟨_,rfl,⟨λh=>X,λh=>absurd h.1 z⟩⟩));have R:=N.len;refine Waj (zdd _ t U) waa.fst λb G=>v _ ⟨_,rfl,?_⟩;grind};.subst w;dsimp only;refine wab (λz=>?_) λz=>u _ ⟨f,rfl,⟨o.rs,λx=>?_⟩,U⟩;{refine wac _ (yi X U) (u _ ⟨_,rfl,⟨?_,λx=>?_⟩,X⟩);{unfold jx;rw[wem];refine⟨o.rs,V,λy L b H=>?_⟩;obtain⟨k,_,rfl,Q,_⟩:=(o.i y).1 L;grind};.rw[wcu,wcr,o.i];grind};.rw[o.i];grind};.subst w;dsimp only;refine wai ?_;exact A (g.2.2.1.length-(d+1)) _ U ⟨d+1,f,U,rfl,rfl,D,F⟩
def PdL.two{g:jb}{em:W8}{al B:W4}{r t:Int}{l:W7}(h:PdL g em al B r t g.2.2.1.length l):1<l.length↔Two g em al B (r,t):=by
 constructor
 .intro u;match l,u,h with
  |a::b::l,_,h=>
   obtain⟨k,p,w,_,c,d,f⟩:=(h.i a).1 V;obtain⟨e,o,x,_,j,m,n⟩:=(h.i b).1 V;have:=(wdj.1 h.rs).1 b V;exact⟨k,e,p,o,U,c,j,d.symm,m.symm,f,n⟩
 .rintro⟨k,e,p,o,v,c,d,f,j,m,n⟩;have q:=(h.i (k:Int)).2 ⟨k,p,rfl,(wcl.1 c).1,c,f.symm,m⟩;have s:=(h.i (e:Int)).2 ⟨e,o,rfl,(wcl.1 d).1,d,j.symm,n⟩;match l,q,s with
  |[a],q,s=>
   grind
  |a::b::l,_,_=>simp
def wa8{g:jb}(a:GOk g){em:W8}{al B:W4}(o:∀l∈al,RN g.1.length l)(f:∀l∈B,RN (g.1.length+1) l){c:Int×Int}(h:Two g em al B c):(0<=c.1/\c.1<(g.2.1.length:Int))/\0<=c.2/\c.2<=(g.1.length:Int):=by
 obtain⟨k,_,p,_,_,j,_,q,_,m,_⟩:=h;have i:=wcq j;obtain⟨r,s⟩:=a.left p i;refine⟨U,?_⟩;rcases zhq.1 m with d|⟨_,d⟩
 {have:=zxk o (a.items p i) d;omega};.by_cases n:p.1.toNat<B.length;{have e:B.getD p.1.toNat []=B[p.1.toNat]:=X;rw[e]at d;have:=(f _ (wcm n)).b _ d;omega};grind
def z42{g:jb}(M:ze4 g)(hz:gFd g=zd)(f:GOk g){em:W8}{al B:W4}(q:EmX g em al)(P:Tn (λG=>Yf G g) (λo=>o=B))(w:B.length=g.2.1.length)(i:∀l∈B,RN (g.1.length+1) l):Tn (λG=>Vt G g) (λr=>∃d,r.1=(d.1,d.2.1,d.2.2,())/\CdS g em al B d):=by
 have J:=f.t;have Z:=f.r;unfold Vt;refine Waj (zbw g M) waa λb R=>?_;have y:=R.2 hz;subst y;refine wae rfl (Waj (zn0 M hz f q P w i) waa λa⟨Q,F⟩=>?_);refine Tt.loop (λm s=>∃d,d<=g.2.1.length/\m=g.2.1.length-d/\s=(a,(d:Int),g,(0,0,0,()))/\∀c,Two g em al B c->(d:Int)<=c.1) g.2.1.length waa ⟨0,U,U,rfl,λc h=>(wa8 f q.x.r i h).1.1⟩ λm s⟨d,T,S,D,n⟩ nx A=>?_;subst D;dsimp only;refine wad (λc=>?_) λc=>Tt.pure ⟨(0,0,0),rfl,.inl ⟨rfl,λv h=>?_⟩⟩;rotate_left
 {have I:=n v h;have p:=(wa8 f q.x.r i h).1.2;omega};refine Tt.loop (λm s=>∃j,j<=g.1.length+1/\m=g.1.length+1-j/\s=(a,(d:Int),(j:Int),g,(0,0,0,()))/\∀c,Two g em al B c->c.1=(d:Int)->(j:Int)<=c.2) (g.1.length+1) waa.fst ⟨0,U,Wab,rfl,λc h _=>(wa8 f q.x.r i h).2.1⟩ λm s⟨j,Y,S,D,u⟩ ny C=>?_;subst D;dsimp only;refine wad (λO=>?_) λO=>Tt.b1 ?_
 .refine Waj (zp6 f Q F _ _) waa.fst.fst λl N=>wad (λv=>?_) λv=>Tt.b1 ?_
  .have H:1<l.length:=U;refine Tt.at H (Tt.pure ⟨(15,(d:Int),(j:Int)),rfl,.inr ⟨((d:Int),(j:Int)),rfl,N.two.1 H,λk h z=>?_⟩⟩);have I:=n k h;rcases z with p|⟨p,L⟩
   {omega};grind
  .rw[wI U U];refine C (g.1.length+1-(j+1)) _ U ⟨j+1,U,rfl,rfl,λk h p=>?_⟩;have L:=u k h p;by_cases e:k.2=(j:Int);{exfalso;have:k=((d:Int),(j:Int)):=Prod.ext p e;rw[this]at h;have:=N.two.2 h;omega};omega
 .rw[wI U U];refine(A (g.2.1.length-(d+1)) _ U ⟨d+1,U,rfl,rfl,λk h=>?_⟩).fst;have I:=n k h;by_cases e:k.1=(d:Int);{have p:=u k h e;have L:=(wa8 f q.x.r i h).2.2;omega};omega
def AtS(g:jb)(em:W8)(al B:W4)(r t:Nat)(z:Int):Prop:=(∃(k:Nat)(p:jk),z=(k:Int)/\g.2.2.1[k]?=some p/\p.1=(r:Int)/\inT em al (B.getD p.1.toNat []) (t:Int) p.2.1)\/(z=-1/\∀(k:Nat)(p:jk),g.2.2.1[k]?=some p->p.1=(r:Int)->¬inT em al (B.getD p.1.toNat []) (t:Int) p.2.1)
def AtS.one{g:jb}{em:W8}{al B:W4}{r t:Nat}{z f:Int}(m:NC g em al B)(h:AtS g em al B r t z)(a:AtS g em al B r t f):z=f:=by
 rcases h with⟨k,p,rfl,i,n,j⟩|⟨rfl,h⟩
 .rcases a with⟨d,e,rfl,b,l,c⟩|⟨_,a⟩
  {rw[m k d p e i b U t j c]};grind
 .rcases a with⟨d,e,rfl,b,l,c⟩|⟨rfl,_⟩
  {grind};rfl
structure TbS(g:jb)(em:List Bool)(al B:List (List Int))(ll:List (List Int)):Prop where
 n:ll.length=g.2.1.length
 w:∀(r:Nat)(row:List Int),ll[r]?=some row->row.length=g.1.length+1
 c:∀(r t:Nat)(row:List Int)(z:Int),ll[r]?=some row->row[t]?=some z->AtS g em al B r t z
def TbS.one{g:jb}{em:W8}{al B:W4}{a b:W4}(m:NC g em al B)(d:TbS g em al B a)(e:TbS g em al B b):a=b:=by apply we9 (by rw[d.n,e.n]);intro r i j;have f:=wch i;have h:=wch j;apply we9 (by rw[d.w _ _ f,e.w _ _ h]);intro t k l;exact(d.c r t _ _ f (wch k)).one m (e.c r t _ _ h (wch l))
def BdS(g:jb)(em:W8)(al B:W4)(x:W4×Int×Unit):Prop:=∃d,CdS g em al B d/\(d.1≠0->x=([],15,()))/\(d.1=0->∃a,x=(a,0,())/\TbS g em al B a)
def BdS.one{g:jb}{em:W8}{al B:W4}{x y:W4×Int×Unit}(h:BdS g em al B x)(k:BdS g em al B y):x=y:=by obtain⟨d,b,n,c⟩:=h;obtain⟨m,i,o,j⟩:=k;have:=b.one i;subst this;by_cases e:d.1=0;{obtain⟨l,rfl,f⟩:=c e;obtain⟨p,rfl,a⟩:=j e;rw[f.one (b.nc e) a]};grind
def tbl_of{g:jb}{em:W8}{al B:W4}{m:PM}(d:GOk g)(h:z9q g em al B m):TbS g em al B (jlw g.2.1.length (g.1.length+1) m):=by
 have F:=z4j d h;have a:=jjx F;refine⟨a.n,a.w,λr t row z q s=>?_⟩;have j:=(wcl.1 s).1;rw[a.w r row q]at j;rcases a.c r t row z q s with⟨e,y,A,o⟩|⟨D,o⟩
 {obtain⟨i,l,G⟩:∃i l,e.2=i::l:=by{cases C:e.2 with|nil=>{exact absurd C (h.pm.ne e y)}|cons i l=>simp};obtain⟨k,p,rfl,f,u,_,_,v⟩:=h.pm.says e y i X;rw[A]at u v;exact .inl ⟨k,p,X,f,u.symm,v⟩};.refine .inr ⟨o,λk p f H b=>?_⟩;obtain⟨x,I,L,_⟩:=h.has k p f _ b;grind
def jkz{g:jb}{em re:W8}{al B:W4}(k:zag g)(i:GR g)(a:GOk g)(l:Kn g em re al B):Tn (λn=>Ju n g) (BdS g em al B):=by
 obtain⟨rows,m,e,b,d⟩:=jdf k a l;obtain⟨r,c,h⟩:=z5i d (jdd e b);refine(ju0 i a e d.pm.nd (z4j a d)).mono λx f=>⟨r.1,h,λh0=>?_,λh0=>?_⟩
 {rw[f,if_pos];unfold zl2 at c;grind};.refine⟨_,?_,tbl_of a d⟩;rw[f,if_neg];intro j;unfold zl2 at c;rw[j]at c;obtain⟨z,_,rfl⟩:=wct.1 c;grind
def PdL.at{g:jb}{em:W8}{al B:W4}{r t:Nat}{l:W7}(h:PdL g em al B (r:Int) (t:Int) g.2.2.1.length l):(l=[]->AtS g em al B r t (-1))/\∀a,a∈l->AtS g em al B r t a:=by refine⟨λe=> .inr ⟨rfl,λk p b c d=>?_⟩,λa j=>?_⟩;{have:=(h.i (k:Int)).2 ⟨k,p,rfl,(wcl.1 b).1,b,c,d⟩;grind};.obtain⟨k,p,f,_,b,c,d⟩:=(h.i a).1 j;exact .inl ⟨k,p,f,b,c,d⟩
def jex{g:jb}(D:ze4 g)(hz:gFd g=zd)(f:GOk g){em:W8}{al B:W4}(R:EmX g em al)(S:Tn (λP=>Yf P g) (λo=>o=B))(i:B.length=g.2.1.length)(k:∀l∈B,RN (g.1.length+1) l):Tn (λP=>Y0 P g) (BdS g em al B):=by
 have ht:=f.t;have hr:=f.r;unfold Y0;refine Waj (zbw g D) waa λb hb=>?_;have A:=hb.2 hz;subst A;refine wae rfl (Waj (z42 D hz f R S i k) waa λcd⟨x,a3,p⟩=>?_);have C:cd.1.1=x.1:=X;refine wad (λc=>Tt.pure ⟨x,p,λ_=>rfl,λh=>absurd (C.trans h) c⟩) λc=>?_;have h0:x.1=0:=by{grind};refine Waj (zn0 D hz f R S i k) waa λa⟨ha,O⟩=>?_;refine Tt.loop (λm s=>∃(d:Nat)(o:W4),d<=g.2.1.length/\m=g.2.1.length-d/\s=(a,(d:Int),g,o)/\o.length=d/\(∀(r:Nat)row,o[r]?=some row->row.length=g.1.length+1)/\∀r t row z,o[r]?=some row->row[t]?=some z->AtS g em al B r t z) g.2.1.length waa ⟨0,[],U,U,rfl,rfl,λr row h=>by simp at h,λr t row z h=>by simp at h⟩ λm s⟨d,o,hd,hm,w,M,v,u⟩ nx I=>?_;subst w;dsimp only;refine wad (λc=>?_) λc=>Tt.pure ⟨x,p,λh=>absurd h0 h,λ_=>⟨o,rfl,⟨X,v,u⟩⟩⟩;refine Tt.loop (λm s=>∃j n,j<=g.1.length+1/\m=g.1.length+1-j/\s=(a,(d:Int),(j:Int),g,o,n)/\n.length=j/\∀t z,n[t]?=some z->AtS g em al B d t z) (g.1.length+1) waa.fst ⟨0,[],U,U,rfl,rfl,λt z h=>by simp at h⟩ λm s⟨j,n,hj,hm,w,H,G⟩ ny L=>?_;subst w;dsimp only;refine wad (λY=>?_) λY=>?_;{refine Tt.J (λs=>∃z,s=(a,(d:Int),(j:Int),g,o,n++[z])/\AtS g em al B d j z) (λnz q=>?_) λs⟨z,w,a5⟩=>?_;{refine Waj (zp6 f ha O _ _) waa.fst.fst λl T=>wad (λZ=>?_) λZ=>?_;{have e:l=[]:=wdm U;exact wac _ (yi X U) (q _ ⟨_,rfl,T.at.1 e⟩)};.have Q:0<l.length:=U;exact Tt.at Q (wac _ (yi X U) (q _ ⟨_,rfl,T.at.2 _ (wcm Q)⟩))};.subst w;dsimp only;refine wai ?_;refine L (g.1.length+1-(j+1)) _ U ⟨j+1,n++[z],U,rfl,rfl,X,λt y hy=>?_⟩;grind}
 .have F:j=g.1.length+1:=U;refine wac _ (yi X U) (wai ?_);refine(I (g.2.1.length-(d+1)) _ U ⟨d+1,o++[n],U,rfl,rfl,X,λr row h=>?_,λr t row z h=>?_⟩).fst;all_goals
   by_cases N:r<o.length
   ·rw[wcx N]at h
    first|exact v r row h|exact u r t row z h
   ·rw[wcw U]at h;have:r=d:=by
     have:=(wcl.1 h).1;simp at this;omega
    subst this;rw[M,Nat.sub_self]at h;simp at h;subst h
    first|exact H.trans F|exact G t z
abbrev aE(d:je):Nat->Nat->Prop:=λi j=>dE d j i
abbrev aS(d:je):Nat->Prop:=λi=>i<d.2.2.1.length/\0<=Jw d i
def zi3{l:W8}{i:Nat}(hi:i<l.length)(h:l[i]=false):l.set i false=l:=by rw[<- h];simp
def z3e{d:je}(hR:Tn (λnn=>zz nn d) (λr=>r=true))(hd:DSz d)(hm:MOk d):Tn (λnn=>za7 nn d) (λr=>r=za9 d.2.2.1.length (aE d) (aS d)):=by
 have n0:0<d.2.2.1.length:=hm.n0;have hn:=hd.n;have hw:=hm.w;have f1:0<=d.2.1:=hw.1;have f2:d.2.1<=256:=hw.2;have b9:d.2.2.2.1.length=d.2.2.1.length:=hm.lab;unfold za7;refine Waj hR waa λr hr=>?_;subst hr;refine wae rfl (Tt.b1 (wac _ (mkN (n:=d.2.2.1.length) U U) ?_));generalize hN:d.2.2.1.length=N at n0 hn b9⊢;have c5:=zxc (replicate N false);rw[wck]at c5;refine Tt.loop (λm s=>∃(k:Nat)(a:W8),k<=N+1/\m=N+1-k/\s=((k:Int),d,a)/\a.length=N/\(∀i,onB a i->Rch (aE d) (aS d) i)/\(a=za9 N (aE d) (aS d)\/offs a+k<=N)) (N+1) waa ⟨0,_,U,U,rfl,V,λi hi=>absurd hi zmx,.inr U⟩ λm s⟨k,a,hk,e8,G,ha,d1,d0⟩ nx d6=>?_;subst G;dsimp only;rw[ha];refine wab (λc=>?_) λc=>Tt.pure ?_;rotate_left
 {grind};have c:=wci c;refine Tt.loop (λm s=>∃(i:Nat)(b:W8),i<=N/\m=N-i/\s=((k:Int),(i:Int),d,b)/\b.length=N/\LeB a b/\(∀i,onB b i->Rch (aE d) (aS d) i)/\(a=b->∀P,P<i->(0<=Jw d P->onB a P)/\∀j,onB a j->dE d P j->onB a P)) N waa.fst ⟨0,a,U,U,rfl,ha,LeB.refl a,d1,λ_ P h=>U⟩ λm s⟨i,b,hi,e7,G,hb,C,y,a2⟩ ny d7=>?_;subst G;dsimp only;rw[hb];refine wab (λc1=>?_) λc1=>?_
 .have c1:=wci c1;have a3:i<N:=U;have B:i<d.2.2.1.length:=U;have f:i<b.length:=U;have b7:i<d.2.2.2.1.length:=U;have R:Jw d i=d.2.2.2.1[i]:=yf b7;have a0:=atN B;have c6:((d.2.2.1[i]).length:Int)=d.2.1:=by{have:=hm.row i U U;rw[yf (l:=d.2.2.1) B]at this;omega};have D:∀(c:Nat)(hc:c<(d.2.2.1[i]).length),nxt d i c=(d.2.2.1[i])[c]:=λc hc=>zh2 B hc;have T:∀(c:Nat)(hc:c<(d.2.2.1[i]).length), -1<=(d.2.2.1[i])[c]/\(d.2.2.1[i])[c]<d.2.2.1.length:=λc hc=>by{have : -1<=nxt d i (c:Int)/\nxt d i (c:Int)<d.2.2.1.length:=hm.nx i c U (by show(i:Int)<d.2.2.1.length;omega) U (by show(c:Int)<d.2.1;omega);rw[D c hc]at this;exact this};generalize d.2.2.1[i]=row at a0 c6 T D;refine Tt.J (λs=>∃b',s=((k:Int),(i:Int),d,b')/\b'.length=N/\LeB b b'/\(∀i,onB b' i->Rch (aE d) (aS d) i)/\(0<=Jw d i->onB b' i)) (λnz F=>?_) λs⟨b1,G,d2,x,b0,d5⟩=>?_;{refine wac _ (vn a3) (wac _ (atN f) (wab (λI=>?_) λI=>?_));{refine wac _ (vn a3) (wac _ (yu true f) (F _ ⟨_,rfl,by simpa using hb,LeB.set f,λj A=>?_,λ_=>(yp f).2 (.inl rfl)⟩));rcases(yp f).1 A with h|h;{subst h;exact y i (by unfold onB;rw[wch f,I])};.exact y j h};.refine wac _ (atN b7) (wac _ (vn a3) ?_);by_cases u:0<=d.2.2.2.1[i];{rw[wdf u];refine wac _ (yu true f) (F _ ⟨_,rfl,by simpa using hb,LeB.set f,λj A=>?_,λ_=>(yp f).2 (.inl rfl)⟩);rcases(yp f).1 A with h|h;{subst h;exact .base ⟨B,by rw[R];exact u⟩};.exact y j h};.rw[wc3 u];refine wac _ (yu false f) (F _ ⟨b,by rw[zi3 f I],hb,LeB.refl b,y,λh=>absurd (by rw[<- R];exact h) u⟩)};subst G;dsimp only;refine Tt.loop (λm s=>∃(c:Nat)(p:W8),c<=row.length/\m=row.length-c/\s=((k:Int),(i:Int),(c:Int),d,p)/\p.length=N/\LeB b1 p/\(∀i,onB p i->Rch (aE d) (aS d) i)/\(a=p->∀Z:Nat,Z<c->∀j:Nat,nxt d i Z=j->onB a j->onB a i)) row.length waa.fst.fst ⟨0,b1,U,U,rfl,d2,LeB.refl b1,b0,λ_ Z h=>U⟩ λm s⟨c,p,hc,e6,G,a1,o,v,b5⟩ nz F=>?_;subst G;dsimp only;have g:i<p.length:=U;refine wab (λI=>?_) λI=>?_
  .have I:=wci I;have M:c<row.length:=U;have hq:=T c M;have a4:=D c M;refine Tt.J (λs=>∃Y,s=((k:Int),(i:Int),(c:Int),d,Y)/\Y.length=N/\LeB p Y/\(∀i,onB Y i->Rch (aE d) (aS d) i)/\(∀j:Nat,nxt d i c=j->onB p j->onB Y i)) (λnu c0=>?_) λs⟨Y,G,d3,S,b4,d4⟩=>?_
   .refine Tt.J (λs=>∃t,s=((k:Int),(i:Int),(c:Int),t,d,p)/\(t=true↔∃j:Nat,nxt d i c=j/\onB p j)) (λnv c4=>?_) λs⟨t,G,ht⟩=>?_
    .refine wac _ a0 (wac _ (atN M) (Tt.b1 (wab (λu=>?_) λu=>c4 _ ⟨false,rfl,⟨λh=>(by cases h),λ⟨j,Q,_⟩=>?_⟩⟩)))
     .have u:=wci u;obtain⟨z,hz⟩:∃z:Nat,row[c]=(z:Int):=⟨(row[c]).toNat,U⟩
      have O:z<p.length:=U;refine wac _ a0 (wac _ (atN M) ?_);rw[hz];refine wac _ (vn O) (wac _ (atN O) (c4 _ ⟨_,rfl,⟨λh=>⟨z,by rw[a4,hz],by unfold onB;rw[wch O,h]⟩,λ⟨j,Q,H⟩=>?_⟩⟩));rw[a4,hz]at Q;have:z=j:=U;subst this;unfold onB at H;rw[wch O]at H;exact wd2 H
     .have u:=wcj u;rw[a4]at Q;omega
    .subst G;dsimp only;refine wab (λu=>?_) λu=>c0 _ ⟨p,rfl,a1,LeB.refl p,v,λj Q H=>by rw[ht.2 ⟨j,Q,H⟩]at u;cases u⟩;refine wac _ (vn g) (wac _ (yu true g) (c0 _ ⟨_,rfl,by simpa using a1,LeB.set g,λj A=>?_,λ_ _ _=>(yp g).2 (.inl rfl)⟩));rcases(yp g).1 A with h|h;{subst h;obtain⟨j,Q,H⟩:=ht.1 u;exact .step (v j H) ⟨B,c,U,by show(c:Int)<d.2.1;omega,Q⟩};.exact v j h
   .subst G;dsimp only;refine Tt.b1 ?_;rw[wI U U];refine F (row.length-(c+1)) _ U ⟨c+1,Y,U,rfl,rfl,d3,o.trans S,b4,λe Z e3 j A b8=>?_⟩;have L:a=p:=((C.trans x).trans o).antisymm (e▸S);by_cases h:Z=c;{subst h;have:=d4 j A (L▸b8);rwa [<- e]at this};.exact b5 L Z U j A b8
  .have I:=wcj I;refine Tt.b1 ?_;rw[wI U U];refine(d7 (N-(i+1)) _ U ⟨i+1,p,U,rfl,rfl,a1,(C.trans x).trans o,v,λe P e5=>?_⟩).fst;have L:a=b:=C.antisymm (e▸x.trans o);have a8:a=b1:=(C.trans x).antisymm (e▸o);by_cases h:P=i;{subst h;refine⟨λh=>by have:=d5 h;rwa [<- a8]at this,λj A hE=>?_⟩;obtain⟨Q,Z,h0,H,h3⟩:=hE;obtain⟨q,rfl⟩:=wdu h0;have H:(q:Int)<d.2.1:=H;exact b5 e q U j h3 A};.exact a2 L P U
 .have c1:=wcj c1;refine Tt.b1 ?_;rw[wI U U];have c8:Round (aE d) (aS d) a b:=⟨C,y,λe=>⟨λi hi=>(a2 e i (by have:=hi.1;omega)).1 hi.2,λj i A hE=>(a2 e i (by have:=hE.1;omega)).2 j A hE⟩⟩
  exact(d6 (N+1-(k+1)) _ U ⟨k+1,b,U,rfl,rfl,hb,y,c8.next ha d0⟩).fst
abbrev zS:Arr 4 Int:=⟨replicate 4 0,wck⟩
def jvs(b:Nat):zzp zS b=0:=by unfold zzp;have h:∀k,zS.l.getD k 0=0:=λk=>by{grind};simp_all
def jrn(b:Nat):zk2 zS b=false:=by unfold zk2;rw[jvs];rfl
def jtk:zeu zS:=λk=>by grind
def finE_z(E:Nat->Nat->Bool):zu2 E zS=E:=by funext a b;unfold zu2;rw[jrn,jrn];simp
def jja{E:Nat->Nat->Bool}(h:Eqv E){a:Wa}(b:ClsAt E a 256):Tn (λd=>Z4 d a) (λr=>r=true):=by unfold Z4;refine Waj (z9t h a b zS jtk) waa λr c=>Tt.pure ?_;rw[finE_z]at c;rw[c.one b];simp
def jki{d:je}{E:Nat->Nat->Bool}(h:Eqv E)(p:ClsAt E d.1 256)(N:d.2.1=((qx E 256).length:Int))(u:DSz d)(hm:MOk d)(B:∀x∈d.2.2.2.1, -1<=x):Tn (λF=>Ji F d) (λb=>b=true):=by have R:=u.n;have S:=u.l;have O:=hm.n0;have z:=hm.lab;unfold Ji;refine Tt.b1 (Tt.J (λs=>s=((d.2.2.1.length:Int),false,d)) (λG g=>?_) λs a=>?_);{refine Tt.b1 (wae (wc3 U) (wae (wc3 U) ?_));refine Waj (jja h p) waa λr A=>?_;subst A;refine wae rfl (Waj (z56 _ (zpf h p)) waa λr A=>g _ ?_);grind};subst a;refine wae rfl (Tt.J (λb=>b=true) (λG g=>?_) λs a=>Tt.pure a);refine Tt.loop (λm s=>∃k,k<=d.2.2.1.length/\m=d.2.2.1.length-k/\s=((d.2.2.1.length:Int),true,d.2.2.1,(d.2.2.1.length:Int),(k:Int),d)) d.2.2.1.length waa ⟨0,U,U,rfl⟩ λm s⟨k,L,D,a⟩ Q w=>?_;subst a;dsimp only;refine wad (λc=>?_) (λc=>g.fst _ rfl);have e:k<d.2.2.1.length:=U;have o:=atN e;have t:((d.2.2.1[k]).length:Int)=d.2.1:=by{have:=hm.row k U U;rw[yf e]at this;omega};have y:=u.r _ (wcm e);have f:∀c(p:c<(d.2.2.1[k]).length), -1<=(d.2.2.1[k])[c]/\(d.2.2.1[k])[c]<d.2.2.1.length:=λc p=>by{have : -1<=nxt d k (c:Int)/\nxt d k (c:Int)<d.2.2.1.length:=hm.nx k c U U U U;rw[zh2 e p]at this;omega};refine wac _ o ?_;generalize d.2.2.1[k]=row at o t f y;refine Tt.J (λs=>s=((d.2.2.1.length:Int),true,row,d.2.2.1,(d.2.2.1.length:Int),(k:Int),false,d)) (λH i=>?_) λs a=>?_;{refine Tt.b1 (wae (wc3 U) (Tt.at (show k<d.2.2.2.1.length by omega) (i _ ?_)));have:=B _ (wcm (show k<d.2.2.2.1.length by omega));rw[wc3 U]};subst a;refine wae rfl ?_;dsimp only;refine Tt.loop (λm s=>∃j,j<=row.length/\m=row.length-j/\s=((d.2.2.1.length:Int),true,d.2.2.1,(d.2.2.1.length:Int),(k:Int),row,(row.length:Int),(j:Int),d)) row.length waa.fst ⟨0,U,Wab,rfl⟩ λm s⟨j,I,C,a⟩ H i=>?_;subst a;dsimp only;refine wad (λc=>?_) (λc=>?_);{have q:j<row.length:=U;have M:=f j q;refine Tt.at q (Tt.J (λs=>s=((d.2.2.1.length:Int),true,d.2.2.1,(d.2.2.1.length:Int),(k:Int),row,(row.length:Int),(j:Int),false,d)) (λP v=>?_) λs a=>?_);{refine Tt.b1 (wae (wc3 U) (v _ ?_));grind};.subst a;refine wae rfl (Tt.b1 ?_);dsimp only;rw[wI U U];exact i (row.length-(j+1)) _ U ⟨j+1,U,rfl,rfl⟩};.refine wai ?_;exact(w (d.2.2.1.length-(k+1)) _ U ⟨k+1,U,rfl,rfl⟩).fst
def zgv{α:Type}(f:α->α)(l:List α)(q:Nat):List α:=(l.take q).map f++l.drop q
def jkc{α:Type}{f:α->α}{l:Wam α}{q:Nat}:(zgv f l q).length=l.length:=by unfold zgv;grind
def jqu{α:Type}{f:α->α}{l:Wam α}{q:Nat}(h:q<l.length):(zgv f l q)[q]?=some l[q]:=by unfold zgv;grind
def jj3{α:Type}{f:α->α}{l:Wam α}{q:Nat}(h:q<l.length):(zgv f l q).set q (f l[q])=zgv f l (q+1):=by unfold zgv;rw[List.set_append_right _ _ X,wcp h,wdc,wc4];simp[wc1,wfb];rw[show q-min q l.length=0 by omega,wcy h];rfl
def jft{α:Type}{f:α->α}{l:Wam α}{q:Nat}(h:q<l.length)(e:f l[q]=l[q]):zgv f l (q+1)=zgv f l q:=by unfold zgv;rw[wcp h,wdc,wc4,wcy h,wc9,e];rfl
def jjq{α:Type}{f:α->α}{l:Wam α}:zgv f l l.length=l.map f:=by simp[zgv]
def kpB(re al:W8)(i:Nat):Bool:=decide (i=0) ||(re.getD i false && al.getD i false)
def keL(a:Nat->Bool)(k:Nat):List Nat:=(range k).filter a
def nuI(a:Nat->Bool)(i:Nat):Int:=if a i=true then((keL a i).length:Int)else -1
def trZ(a:Nat->Bool)(z:Int):Int:=if 0<=z then nuI a z.toNat else z
def zah(d:je)(a:Nat->Bool):je:=(d.1,d.2.1,(keL a d.2.2.1.length).map (λ(i:Nat)=>(at' d.2.2.1 (i:Int)).map (trZ a)),(keL a d.2.2.1.length).map (λ(i:Nat)=>Jw d i),())
def zi4(a:Nat->Bool)(k:Nat):keL a (k+1)=if a k=true then keL a k++[k]else keL a k:=by unfold keL;rw[wfl,wfc];grind
def zpa(a:Nat->Bool)(k:Nat):(keL a k).length<=k:=by have:=List.length_filter_le a (range k);simpa [keL]using this
def z6b{a:Nat->Bool}{k i:Nat}(h:i∈keL a k):i<k:=by have:=(weo.1 h).1;grind
structure NuI(kp:Nat->Bool)(n k:Nat)(nu:List Int):Prop where
 l:nu.length=n
 v:∀i,i<k->nu[i]?=some (nuI kp i)
def NuI.next{a:Nat->Bool}{n k:Nat}{b:W7}(h:NuI a n k b)(d:k<n){z:Int}(hz:z=nuI a k):NuI a n (k+1) (b.set k z):=⟨by simpa using h.l,λi c=>by
 rw[wdh];by_cases e:k=i;{subst e;have:=h.l;grind};.rw[if_neg e];exact h.v i U⟩
def z8d{a:Nat->Bool}{k:Nat}(h:a k=true):nuI a k=((keL a k).length:Int):=if_pos h
def jep{a:Nat->Bool}{k:Nat}(h:a k=false):nuI a k=-1:=if_neg X
def zh8{α β:Type}{l:Wam α}{f:α->β}{i:Nat}(h:i<l.length):(l.take i).map f++[f l[i]]=(l.take (i+1)).map f:=by rw[wcp h,wdc];rfl
def jtd(d:je)(S:DSz d)(hm:MOk d)(hR:Tn (λnn=>Ji nn d) (· = true)):Tn (λnn=>Zq nn d) (λr=>r=zah d (kpB (za9 d.2.2.1.length (dE d) (λi=>i=0)) (za9 d.2.2.1.length (aE d) (aS d)))):=by
 have s1:=S.n;have s2:=S.w;have b6:d.2.2.2.1.length=d.2.2.1.length:=hm.lab;unfold Zq;refine Waj hR waa λb' a2=>?_;subst a2;refine wae rfl ?_;refine Waj (zuu d S hR) waa λre u=>?_;refine Waj (jjy d S hR) waa λB g=>?_;have u:re=za9 d.2.2.1.length (dE d) (λi=>i=0):=by{rcases u with⟨h,_⟩|⟨_,_,h⟩;cases h;exact h};have g:B=za9 d.2.2.1.length (aE d) (aS d):=by{rcases g with⟨h,_⟩|⟨_,_,h⟩;cases h;exact h};rw[<- u,<- g];have c6:re.length=d.2.2.1.length:=by{rw[u,zap]};have b4:B.length=d.2.2.1.length:=by{rw[g,zap]};clear u g;refine Tt.b1 (wac _ (mkN U U) ?_);simp only[wck];generalize (⟨replicate 256 0,wck⟩:Wa)=Z;generalize a6:kpB re B=a;refine Tt.loop (λm s=>∃(k:Nat)(A:W7),k<=d.2.2.1.length/\m=d.2.2.1.length-k/\s=(re,B,(d.2.2.1.length:Int),(k:Int),d,Z,0,A,(keL a k).map (λ(i:Nat)=>(i:Int)),[],[])/\NuI a d.2.2.1.length k A) d.2.2.1.length waa ⟨0,_,U,U,rfl,⟨V,λi h=>U⟩⟩ λm s⟨k,A,hk,Q,y,D⟩ nx a8=>?_;subst y;dsimp only;have c4:=D.l;have a5:=zpa a k;refine wab (λc=>?_) (λc=>?_);{have c:=wci c;have e:k<d.2.2.1.length:=U;refine Tt.J (λs=>∃(A:W7),s=(re,B,(d.2.2.1.length:Int),(k:Int),d,Z,0,A,(keL a (k+1)).map (λ(i:Nat)=>(i:Int)),[],[])/\NuI a d.2.2.1.length (k+1) A) (λny o=>?_) λs⟨A,y,h1⟩=>?_;{refine wac _ (vn U) (wac _ (yu _ U) ?_);refine Tt.J (λs=>s=(re,B,(k:Int),(d.2.2.1.length:Int),(k:Int),a k,d,Z,0,A.set k (-1),(keL a k).map (λ(i:Nat)=>(i:Int)),[],[])) (λnz p=>?_) λs y=>?_;{have C:a k=(decide (k=0) ||(re.getD k false && B.getD k false)):=by{rw[<- a6];rfl};refine Tt.b1 (wab (λb=>p _ ?_) λb=>?_);{have b:=wci b;have:k=0:=U;rw[C,wdf this];rfl};have b:=wcj b;have P:k<re.length:=U;have O:k<B.length:=U;have er:re.getD k false=re[k]:=by{simp[List.getD,P]};have ea:B.getD k false=B[k]:=by{simp[List.getD,O]};rw[er,ea,wc3 U,Bool.false_or]at C;refine wac _ (atN P) (wab (λT=>wac _ (atN O) (p _ ?_)) λT=>p _ ?_);{rw[C,T];rfl};.rw[C,T];rfl};.subst y;dsimp only;refine wab (λb=>?_) λb=>o _ ⟨_,by rw[zi4,if_neg (by rw[b];simp)],D.next e (jep b).symm⟩;refine wac _ (vn Wag) (wac _ (yu _ Wag) (wac _ (yi X U) (o _ ⟨_,by rw[zi4,if_pos b,wdc];rfl,?_⟩)));rw[List.set_set];exact D.next e (by rw[z8d b];simp)};.subst y;refine Tt.b1 ?_;dsimp only;rw[wI U U];exact a8 (d.2.2.1.length-(k+1)) _ U ⟨k+1,_,U,rfl,rfl,h1⟩};have c:=wcj c;have a4:k=d.2.2.1.length:=U;subst a4;obtain⟨W,hW⟩:∃W:Nat,d.2.1=(W:Int):=⟨d.2.1.toNat,U⟩
 unfold zah;have G:∀j∈keL a d.2.2.1.length,j<d.2.2.1.length:=λj h=>z6b h;generalize keL a d.2.2.1.length=K at a5 G⊢;rw[wc1];refine Tt.loop (λm s=>∃(i:Nat),i<=K.length/\m=K.length-i/\s=((K.length:Int),(i:Int),d,Z,0,A,d.1,d.2.1,K.map (λ(i:Nat)=>(i:Int)),[],[],(K.take i).map (λ(i:Nat)=>(at' d.2.2.1 (i:Int)).map (trZ a)),(K.take i).map (λ(i:Nat)=>Jw d i))) K.length waa.fst ⟨0,U,U,rfl⟩ λm s⟨i,hi,Q,y⟩ ny o=>?_;subst y;dsimp only;refine wab (λc=>?_) (λc=>Tt.pure ?_);rotate_left
 {grind};have c:=wci c;have e:i<K.length:=U;have N:=G _ (wcm e);have M:=zh8 (f:=λ(i:Nat)=>(at' d.2.2.1 (i:Int)).map (trZ a)) e;have R:=zh8 (f:=λ(i:Nat)=>Jw d i) e;have c1:(K.map (λ(i:Nat)=>(i:Int)))[i]?=some ((K[i]:Nat):Int):=by{simp[e]};refine wac _ (vn (by simpa using e)) (wac _ (Qc U (by assumption)) ?_);generalize K[i]=j at N M R;have x:=hm.row j U U;have a1:=atN N;have a7:=atN (l:=d.2.2.2.1) (k:=j) U;have Y:Jw d j=d.2.2.2.1[j]:=yf U;have I:∀(c:Nat)(hc:c<(d.2.2.1[j]).length), -1<=(d.2.2.1[j])[c]/\(d.2.2.1[j])[c]<d.2.2.1.length:=λc hc=>by{rw[yf (l:=d.2.2.1) N]at x;have : -1<=nxt d j (c:Int)/\nxt d j (c:Int)<d.2.2.1.length:=hm.nx j c U U U U;rw[zh2 N hc]at this;omega};simp only[yf (l:=d.2.2.1) N]at x M;rw[hW];refine wac _ (mkN (n:=W) U U) (wac _ a1 ?_);generalize d.2.2.1[j]=row at x M I;have a3:jnt (replicate W (0:Int)) row=some (((min (replicate W (0:Int)).length row.length:Nat):Int),row):=by{unfold jnt;congr 2;rw[wck,wd1 U,wds Wag,wc2]};refine wac _ a3 ?_;refine Tt.loop (λm s=>∃(q:Nat),q<=row.length/\m=row.length-q/\s=((j:Int),(K.length:Int),(i:Int),(row.length:Int),(q:Int),d,Z,0,A,d.1,(W:Int),zgv (trZ a) row q,K.map (λ(i:Nat)=>(i:Int)),[],[],(K.take i).map (λ(i:Nat)=>(at' d.2.2.1 (i:Int)).map (trZ a)),(K.take i).map (λ(i:Nat)=>Jw d i))) row.length waa.fst.fst ⟨0,U,Wab,Wab⟩ λm s⟨q,c5,Q,y⟩ nz p=>?_;subst y;dsimp only;refine wab (λc=>?_) (λc=>?_)
 .have c:=wci c;have F:q<row.length:=U;have L:q<(zgv (trZ a) row q).length:=by{rw[jkc];omega};have a9:=I _ F;refine Tt.J (λs=>s=((j:Int),(K.length:Int),(i:Int),(row.length:Int),(q:Int),d,Z,0,A,d.1,(W:Int),zgv (trZ a) row (q+1),K.map (λ(i:Nat)=>(i:Int)),[],[],(K.take i).map (λ(i:Nat)=>(at' d.2.2.1 (i:Int)).map (trZ a)),(K.take i).map (λ(i:Nat)=>Jw d i))) (λc7 H=>?_) λs y=>?_
  .refine wac _ (vn L) (wac _ (Qc U (by simpa using jqu F)) ?_);refine wab (λb=>?_) λb=>H _ ?_
   .have b:=wci b;have z:=jj3 (f:=trZ a) F;have b0:trZ a row[q]=nuI a (row[q]).toNat:=by{unfold trZ;omega};rw[b0]at z;obtain⟨t,et⟩:∃t:Nat,row[q]=(t:Int):=⟨(row[q]).toNat,U⟩
    rw[et]at a9 z⊢;refine wac _ (vn U) (wac (nuI a t) (Qc U (by simpa using D.v t U)) (wac _ (vn L) (wac _ (yu _ L) (H _ ?_))));rw[<- z];rfl
   .have b:=wcj b;rw[jft F (by unfold trZ;omega)]
  .subst y;refine Tt.b1 ?_;dsimp only;rw[wI U U];exact p (row.length-(q+1)) _ U ⟨q+1,U,rfl,rfl⟩
 .have c:=wcj c;have:q=row.length:=U;subst this;rw[jjq];refine wac _ (yi X U) (wac _ a7 (wac _ (yi X U) (Tt.b1 ?_)));rw[wI U U];rw[hW]at o;rw[<- Y];exact(o (K.length-(i+1)) _ U ⟨i+1,U,rfl,X⟩).fst
def jfy(d:je)(S:DSz d)(hm:MOk d)(hR:Tn (λnn=>zz nn d) (λr=>r=true)):Tn (λnn=>Yi nn d) (λr=>r=zah d (kpB (za9 d.2.2.1.length (dE d) (λi=>i=0)) (za9 d.2.2.1.length (aE d) (aS d)))):=by
 have s1:=S.n;have s2:=S.w;have b5:=hm.lab;unfold Yi;refine Waj hR waa λb' a1=>?_;subst a1;refine wae rfl (Waj (zkm hR S hm) waa λre I=>?_);refine Waj (z3e hR S hm) waa λy F=>?_;rw[<- I,<- F];have c4:re.length=d.2.2.1.length:=by{rw[I,zap]};have b2:y.length=d.2.2.1.length:=by{rw[F,zap]};clear I F;refine Tt.b1 (wac _ (mkN U U) ?_);generalize (⟨replicate 256 0,wck⟩:Wa)=Z;generalize a4:kpB re y=a;refine Tt.loop (λm s=>∃k o,k<=d.2.2.1.length/\m=d.2.2.1.length-k/\s=(re,y,((keL a k).length:Int),(k:Int),d,Z,0,o,[],[])/\NuI a d.2.2.1.length k o) d.2.2.1.length waa ⟨0,_,U,U,rfl,⟨V,λi h=>U⟩⟩ λm s⟨k,o,hk,Q,g,p⟩ nx a6=>?_;subst g;dsimp only;have R:=p.l;have c0:=zpa a k;rw[R];refine wab (λc=>?_) (λc=>?_);{have c:=wci c;have G:k<d.2.2.1.length:=U;refine Tt.J (λs=>∃o,s=(re,y,((keL a (k+1)).length:Int),(k:Int),d,Z,0,o,[],[])/\NuI a d.2.2.1.length (k+1) o) (λny B=>?_) λs⟨o,g,h1⟩=>?_;{refine wac _ (vn G) (wac _ (yu _ U) ?_);refine Tt.J (λs=>s=(re,y,((keL a k).length:Int),(k:Int),a k,d,Z,0,o.set k (-1),[],[])) (λnz u=>?_) λs g=>?_;{have z:a k=(decide (k=0) ||(re.getD k false && y.getD k false)):=by{rw[<- a4];rfl};refine Tt.b1 (wab (λb=>u _ ?_) λb=>?_);{have b:=wci b;have:k=0:=U;rw[z,wdf this];rfl};have b:=wcj b;have P:k<re.length:=U;have O:k<y.length:=U;have er:re.getD k false=re[k]:=by{simp[List.getD,P]};have ea:y.getD k false=y[k]:=by{simp[List.getD,O]};rw[er,ea,wc3 U,Bool.false_or]at z;refine wac _ (atN P) (wab (λT=>wac _ (atN O) (u _ ?_)) λT=>u _ ?_);{rw[z,T];rfl};.rw[z,T];rfl};.subst g;dsimp only;refine wab (λb=>?_) λb=>B _ ⟨_,by rw[zi4,if_neg (by rw[b];simp)],p.next G (jep b).symm⟩;refine wac _ (vn Wag) (wac _ (yu _ Wag) (Tt.b1 ?_));rw[wI U U];refine B _ ⟨_,by rw[zi4,if_pos b,wc0];rfl,?_⟩;rw[List.set_set];exact p.next G (by rw[z8d b])};.subst g;refine Tt.b1 ?_;dsimp only;rw[wI U U];exact a6 (d.2.2.1.length-(k+1)) _ U ⟨k+1,_,U,rfl,rfl,h1⟩};have c:=wcj c;have a2:k=d.2.2.1.length:=U;subst a2;obtain⟨W,hW⟩:∃W:Nat,d.2.1=(W:Int):=⟨d.2.1.toNat,U⟩
 refine Tt.loop (λm s=>∃i,i<=d.2.2.1.length/\m=d.2.2.1.length-i/\s=((i:Int),d,Z,0,o,d.1,d.2.1,[],[],(keL a i).map (λ(i:Nat)=>(at' d.2.2.1 (i:Int)).map (trZ a)),(keL a i).map (λi=>Jw d i))) d.2.2.1.length waa.fst ⟨0,U,U,rfl⟩ λm s⟨j,hi,Q,g⟩ ny B=>?_;subst g;dsimp only;rw[R];refine wab (λc=>?_) (λc=>Tt.pure ?_);rotate_left
 {have c:=wcj c;have:j=d.2.2.1.length:=U;subst this;rfl};have c:=wci c;have M:j<d.2.2.1.length:=U;have b4:=zpa a j;have L:=zi4 a j;refine Tt.J (λs=>s=((j:Int),d,Z,0,o,d.1,d.2.1,[],[],(keL a (j+1)).map (λ(i:Nat)=>(at' d.2.2.1 (i:Int)).map (trZ a)),(keL a (j+1)).map (λi=>Jw d i))) (λc5 e=>?_) λs g=>?_;rotate_left
 {subst g;refine Tt.b1 ?_;dsimp only;rw[wI U U];exact B (d.2.2.1.length-(j+1)) _ U ⟨j+1,U,rfl,rfl⟩};refine wac _ (vn M) (wac (nuI a j) (Qc U (by simpa using p.v j M)) (wab (λb=>e _ ?_) λb=>?_));{have b:=wci b;rw[L,if_neg];intro h;rw[z8d h]at b;omega};have b:=wcj b;have a3:a j=true:=by{cases h:a j with|true=>{rfl}|false=>rw[jep h]at b;omega};rw[if_pos a3]at L;rw[L,wdc,wdc]at e;have x:=hm.row j U U;have N:=atN M;have a5:=atN (l:=d.2.2.2.1) (k:=j) U;have Y:Jw d j=d.2.2.2.1[j]:=yf U;have D:∀(c:Nat)(hc:c<(d.2.2.1[j]).length), -1<=(d.2.2.1[j])[c]/\(d.2.2.1[j])[c]<d.2.2.1.length:=λc hc=>by{rw[yf M]at x;have : -1<=nxt d j (c:Int)/\nxt d j (c:Int)<d.2.2.1.length:=hm.nx j c U U U U;rw[zh2 M hc]at this;omega};have C:=yf M;rw[C]at x;simp only[wc9,wea,C]at e;generalize d.2.2.1[j]=row at x N D e;refine Tt.loop (λm s=>∃(q:Nat),q<=row.length/\m=row.length-q/\s=((j:Int),(q:Int),d,Z,0,o,d.1,d.2.1,(row.take q).map (trZ a),[],[],(keL a j).map (λ(i:Nat)=>(at' d.2.2.1 (i:Int)).map (trZ a)),(keL a j).map (λ(i:Nat)=>Jw d i))) row.length waa.fst.fst ⟨0,U,Wab,rfl⟩ λm s⟨q,c1,Q,g⟩ nz u=>?_;subst g;dsimp only;refine wab (λc=>?_) (λc=>?_)
 .have c:=wci c;have H:q<row.length:=U;have a7:=D _ H;have a9:=zh8 (f:=trZ a) H;refine wac _ N (wac _ (atN H) ?_);refine Tt.J (λs=>s=((j:Int),(q:Int),trZ a row[q],d,Z,0,o,d.1,d.2.1,(row.take q).map (trZ a),[],[],(keL a j).map (λ(i:Nat)=>(at' d.2.2.1 (i:Int)).map (trZ a)),(keL a j).map (λ(i:Nat)=>Jw d i))) (λnv A=>?_) λs g=>?_
  .refine wab (λb=>?_) λb=>A _ ?_
   .have b:=wci b;have a8:trZ a row[q]=nuI a (row[q]).toNat:=by{unfold trZ;omega};rw[a8]at A;obtain⟨t,et⟩:∃t:Nat,row[q]=(t:Int):=⟨(row[q]).toNat,U⟩
    rw[et]at a7 A⊢;exact wac _ (vn U) (wac (nuI a t) (Qc U (by simpa using p.v t U)) (A _ rfl))
   .have b:=wcj b;rw[show trZ a row[q]=row[q] by unfold trZ;omega]
  .subst g;dsimp only;refine wac _ (yi X U) (Tt.b1 ?_);rw[wI U U,a9];exact u (row.length-(q+1)) _ U ⟨q+1,U,rfl,rfl⟩
 .have c:=wcj c;have:q=row.length:=U;subst this;rw[wc5];refine wac _ (yi X U) (wac _ a5 (wac _ (yi X U) ?_));rw[<- Y];exact e.fst _ rfl
def z65{c:Prop}[Decidable c]{d:jd}(h:(if c then d else zd).1=0)(a:d.1≠0):¬c:=λk=>a X
def jue{g:jb}{i:Nat}{p:jk}(h:(zof g i p).1=0):PrOk g p:=by unfold zof at h;split at h;{omega};split at h;{omega};.refine⟨U,U,U,λx a=>?_⟩;obtain⟨k,b⟩:=wdb a;unfold jk0 at h;exact itE_ok (zg2 h (itE g x,(i:Int),(k:Int)+1,()) (wcq (i:=k) X))
def jqc{g:jb}(h:gFd g=zd):GOk g:=by have c:(gFd g).1=0:=by{rw[h]};unfold gFd at c;have a:=zg2 c;simp only[wcu]at a;have b:∀p∈g.2.2.1,PrOk g p:=λp b=>by{obtain⟨i,d⟩:=wdb b;exact jue (a (zof g i p) (.inr (.inr (.inr (.inr (.inl (wcq (by rw[zo0,we6,d];rfl))))))))};have f:=z65 (a _ (.inl (wcq (i:=0) rfl))) (show(4:Int)≠0 by simp);have j:=z65 (a _ (.inl (wcq (i:=1) rfl))) (show(4:Int)≠0 by simp);have k:=z65 (a _ (.inl (wcq (i:=2) rfl))) (show(4:Int)≠0 by simp);have l:=z65 (a (zl7 g) (.inr (.inr (.inr (.inr (.inr (.inl (wcr.2 rfl)))))))) V;exact⟨U,U,U,λt e=>Yb (z7d h t e),λp h=>⟨(b p h).l0,(b p h).l1⟩,λp h=>(b p h).n,λp h=>(b p h).it,U⟩
def jp2{g:jb}(a:zag g)(hz:gFd g=zd):GR g/\GOk g:=by refine⟨?_,jqc hz⟩;unfold GR Je;exact Waj (jg5 g a) waa λr b=>Tt.pure X
def jkt(g:jb):jd:=fs2 10 0 (g.1.map λx=>!zkr x.2.1) 0
abbrev cD(c:Int×Int×Int):jd:=(c.1,c.2.1,c.2.2,())
def jt0(g:jb)(re mk:W8)(c:Int×Int×Int):List jd:=[jkt g,fsF 13 re 0,fsF 14 mk 0,cD c]
structure FmA(g:jb)(em re mk:List Bool)(al B:List (List Int))(c:Int×Int×Int):Prop where
 k:KnX g em re al B
 m:mk.length=g.2.1.length/\(∀p∈g.2.2.1,mkT true mk p)/\MSn true g mk
 hM:Tn (λnn=>Yk nn g) (λr=>r=mk)
 c:CdS g em al B c
def FmA_of{g:jb}(b:zag g)(hz:gFd g=zd):∃e re mk d B c,FmA g e re mk d B c:=by obtain⟨f,a⟩:=jp2 b hz;obtain⟨e,re,d,B,i⟩:=KnX_of g b f a;obtain⟨mk,j,h⟩:=(jn6 g b f a).val;obtain⟨C,_,c,_,k⟩:=jai b f a i.kn;exact⟨e,re,mk,d,B,c,i,h,j,k⟩
def jei(d:je)(B:DSz d)(hm:MOk d)(F:Tn (λz=>Ji z d) (· = true)):Tn (λz=>Ja z d) (λr=>r.length<=300/\∀x,x∈r↔LbR d x):=by have P:=B.n;have D:d.2.2.2.1.length=d.2.2.1.length:=hm.lab;unfold Ja;refine Waj (zuu d B F) waa λr u=>?_;have u:r=za9 d.2.2.1.length (dE d) (λi=>i=0):=by{rcases u with⟨h,_⟩|⟨_,_,h⟩;cases h;exact h};have H:r.length=d.2.2.1.length:=by{rw[u,zap]};refine Tt.loop (λm s=>∃(k:Nat)(l:W7),k<=r.length/\m=r.length-k/\s=(r,(r.length:Int),(k:Int),d,l)/\l.length<=k/\∀x,x∈l↔∃i:Nat,i<k/\onB r i/\d.2.2.2.1[i]?=some x/\0<=x) r.length waa ⟨0,_,U,U,rfl,V,λx=>⟨λh=>(by cases h),λ⟨i,h,_⟩=>U⟩⟩ λm s⟨k,l,L,G,q,C,v⟩ M w=>?_;subst q;dsimp only;refine wab (λc=>?_) (λc=>?_);{have c:=wci c;have g:k<r.length:=U;have b:k<d.2.2.2.1.length:=U;have t:∀{y:W7},(∀x,x∈y↔x∈l\/(onB r k/\d.2.2.2.1[k]?=some x/\0<=x))->∀x,x∈y↔∃i:Nat,i<k+1/\onB r i/\d.2.2.2.1[i]?=some x/\0<=x:=λ{y}h x=>by{rw[h,v];constructor;{rintro(⟨i,f,a⟩|a);{exact⟨i,U,a⟩};.exact⟨k,U,a⟩};.rintro⟨i,f,a⟩;by_cases e:i=k;{subst e;exact .inr a};.exact .inl ⟨i,U,a⟩};refine Tt.J (λs=>∃l,s=(r,(r.length:Int),(k:Int),d,l)/\l.length<=k+1/\∀x,x∈l↔∃i:Nat,i<k+1/\onB r i/\d.2.2.2.1[i]?=some x/\0<=x) (λN o=>?_) λs⟨l,q,C,v⟩=>?_;{refine wac _ (atN g) ?_;refine Tt.J (λs=>s=((k:Int),r,(r.length:Int),(k:Int),(r[k] && decide (0<=d.2.2.2.1[k])),d,l)) (λO p=>?_) λs q=>?_;{refine wab (λc=>wac _ (atN b) (p _ ?_)) λc=>p _ ?_;{rw[c,wes]};.rw[c];rfl};.subst q;dsimp only;refine wab (λj=>?_) λj=>o _ ⟨l,rfl,U,t λx=>⟨.inl,λh=>h.elim id λ⟨f,a,A⟩=>?_⟩⟩;{simp only[wco,wc8]at j;refine wac _ (atN b) (wac _ (yi W U) (o _ ⟨_,rfl,W,t λx=>?_⟩));rw[wcu,wcr];refine or_congr Iff.rfl ⟨λh=>?_,λ⟨f,a,A⟩=>?_⟩;{subst h;exact⟨by unfold onB;rw[wch g,j.1],wch b,j.2⟩};.rw[wch b]at a;exact(wd2 a).symm};.unfold onB at f;rw[wch g]at f;rw[wch b]at a;rw[wd2 f,wd2 a,wes]at j;exact absurd A (wcj j)};.subst q;refine Tt.b1 ?_;dsimp only;rw[wI U U];exact w (r.length-(k+1)) _ U ⟨k+1,_,U,rfl,rfl,C,v⟩};.have c:=wcj c;have I:(ze3 l).length=l.length:=zp7 _;refine wac _ (sm7 U) (wac _ (sm7 U) (Tt.pure ⟨?_,λx=>?_⟩));{have:=zvx (ze3 l);omega};.rw[(znn _ (zka _)).2,z5d,v];unfold LbR;rw[<- u];constructor;{rintro⟨i,f,a⟩;exact⟨i,a⟩};.rintro⟨i,a⟩;exact⟨i,by have:=z6f a.1;omega,a⟩
def jf5(D:jd)(a:je)(tb:W4):je×W4×jd×Unit:=if D.1=0 then(a,tb,D,())else(zD,[],D,())
def jr6{g:jb}(O:zag g)(ht:g.1.length<=12)(hz:gFd g=zd){em re mk:W8}{al B:W4}{c:Int×Int×Int}(N:FmA g em re mk al B c){n:jl}{bd:je×Int×Int×Unit}{lt:W7}{tr:je}{tb:W4×Int×Unit}(hF:Tn (λj=>zet j g.1) (λr=>r=n))(hB:Tn (λj=>zbu j n g.2.2.2.2.1) (λr=>r=bd))(hT:bd.2.2.1=0->Tn (λj=>Ja j bd.1) (λr=>r=lt))(hl:lt.length<=1000000)(Y:bd.2.2.1=0->Tn (λj=>Zq j bd.1) (λr=>r=tr))(T:Tn (λj=>Ju j g) (λr=>r=tb)):Tn (λj=>zf j g) (λr=>r=jf5 (jy (jt0 g re mk c++[zpr g.1.length bd.2.2.1 lt])) tr tb.1):=by
 obtain⟨hR,o⟩:=jp2 O hz;have hk:=N.k;generalize a:jy (jt0 g re mk c++[zpr g.1.length bd.2.2.1 lt])=D;have a:jy [jkt g,fsF 13 re 0,fsF 14 mk 0,cD c,zpr g.1.length bd.2.2.1 lt]=D:=a;unfold zf;refine Tt.J (λs=>∃(Z:Wa)(z:jd)(L:jb)(d:je)(p:W4)(q:W7)(u:W4),s=(g,Z,z,L,d,D,p,q,u)/\(D.1=0->bd.2.2.1=0/\d=bd.1)) (λnx G=>?_) λs⟨Z,z,L,d,p,q,u,hs,R⟩=>?_
 .have b:∀{Z z L}{d:je}{e:jd}{p q u},¬e.1=0->D=e->Tt wa1 (λi=>nx i (g,Z,z,L,d,e,p,q,u)) _:=λR l=>G _ ⟨_,_,_,_,_,_,_,by rw[l],λh=>absurd X R⟩;refine Waj (z5l g O _) waa λd1 C=>?_;rw[hz]at C;subst C;refine wae rfl (Waj (jkv O o _) waa λx hx=>?_);have hx:x=jkt g:=hx;rw[<- hx]at a;refine wad (λc=>b c ?_) λA=>?_;{rw[<- a];simp[jy];grind};have A:=wd9.1 A;refine Waj (jkb o _ hk.kn.hrl hk.kn.hRe) waa λy hy=>?_;rw[<- hy]at a;refine wad (λc=>b c ?_) λI=>?_;{rw[<- a];simp[jy];rw[if_pos A,if_neg c]};have I:=wd9.1 I;refine Waj (jlq o _ N.m.1 N.hM) waa λw hw=>?_;rw[<- hw]at a;refine wad (λc=>b c ?_) λP=>?_;{rw[<- a];simp[jy];rw[if_pos A,if_pos I,if_neg c]};have P:=wd9.1 P;refine Waj (jlg O hR o hk.kn _) waa λv⟨q5,h5,S⟩=>?_;have hq:=S.one N.c;subst hq;rw[<- show v=cD q5 from h5]at a;refine wad (λc=>b c ?_) λQ=>?_;{rw[<- a];simp[jy];grind};have Q:=wd9.1 Q;have f:D=zpr g.1.length bd.2.2.1 lt:=by{rw[<- a];simp[jy];rw[if_pos A,if_pos I,if_pos P,if_pos Q];split;{rename_i h;unfold zpr at h⊢;split at h;{rename_i S;rw[if_pos S];exact(jej V h).symm};.cases h};rfl};refine Tt.J (λs=>∃(Z:Wa)(z:jd)(d:je)(e:jd)(p:W4)(q:W7)(u:W4),s=(g,Z,z,g,d,e,p,q,u)/\((e.1≠0/\D=e)\/(e.1=0/\bd.2.2.1=0/\d=bd.1))) (λny H=>?_) λs⟨Z,z,d,e,p,q,u,hs,l⟩=>?_;{refine Waj hF waa λn hn=>?_;subst hn;refine Waj hB waa λd hd=>?_;subst hd;exact wab (λc=>H _ ⟨_,_,_,_,_,_,_,rfl,.inl ⟨V,by rw[f];unfold zpr;grind⟩⟩) λc=>H _ ⟨_,_,_,_,_,_,_,rfl,.inr ⟨rfl,X,rfl⟩⟩}
  .subst hs;dsimp only;rcases l with⟨l,M⟩|⟨l,M,h7⟩
   {exact wah (wdf l) (b l M)};.subst h7;refine wae (wc3 U) (Waj (jlc U bd.1 _ hl (hT M)) waa λe2 b3=>?_);have h8:D=e2:=by{rw[f];unfold zpr;grind};have F:=G (g,Z,z,g,bd.1,e2,p,q,u) ⟨_,_,_,_,_,_,_,by rw[h8],λ_=>⟨M,rfl⟩⟩;exact wab (λ_=>F) λ_=>F
 .subst hs;dsimp only;unfold jf5;refine wad (λc=>Tt.pure ?_) λc=>?_;{grind};have c:=wd9.1 c;obtain⟨l,rfl⟩:=R c;rw[if_pos c];exact Waj T waa λt ht=>Waj (Y l) waa λm hm=>Tt.pure X
def jf8{g:jb}(k:zag g)(hz:(gFd g).1≠0):Tn (λl=>zf l g) (λr=>r=(zD,[],gFd g,())):=by
 unfold zf;refine Tt.J (λs=>s.2.2.2.2.2.1=gFd g) (λn i=>?_) λs j=>?_;.exact Waj (z5l g k _) waa λm h=>(wah (wdf X) (i _ h))
 .obtain⟨a,b,c,d,e,f,x⟩:=s;dsimp only at j⊢;subst j;exact wah (wdf hz) (Tt.pure rfl)
def zbk(st:W8)(x:Rx):W8:=
 if x.kind=1 then false::st else if x.kind=2 then true::st else match st with
 |[]=>[]
 |b::r=>if x.kind=5\/x.kind=7 then true::r else if x.kind=6 then b::r else match r with
  |[]=>[]
  |a::r=>if x.kind=3 then(a && b)::r else(a ||b)::r
def z40(e:E):∀st,(post e).foldl zbk st=yg e::st:=by induction e with|set=>{intro st;rfl}|empty=>{intro st;rfl}|cat a b c d=>{intro st;simp[post,wd8,c,d,zbk,Qv,yg]}|alt a b c d=>{intro st;simp[post,wd8,c,d,zbk,Qv,yg]}|star a f=>{intro st;simp[post,wd8,f,zbk,Qv,yg]}|plus a f=>{intro st;simp[post,wd8,f,zbk,Qv,yg]}|opt a f=>intro st;simp[post,wd8,f,zbk,Qv,yg]
def nuB(f:jo):Bool:=f.1 && decide (f.2.1=0)
def ztq(f:jo):Prop:=f.1=true->0<=f.2.1/\f.2.1<=1099511627776
def cat_ex(a b:jo)(n:ztq a)(o:ztq b):Tn (λp=>Zv p a b) (λr=>ztq r/\nuB r=(nuB a && nuB b)):=by unfold Zv;refine Tt.J (λs=>(!(a.1 && b.1))=s.1/\a=s.2.1/\b=s.2.2.1) (λj d=>?_) (λs⟨k,l,m⟩=>?_);{refine Tt.b1 (wab (λc=>d _ ⟨?_,rfl,rfl⟩) λc=>d _ ⟨?_,rfl,rfl⟩);{have:a.1=false:=by{simpa using c};simp[this]};.have:a.1=true:=by{simpa using c};simp[this]};.obtain⟨v,w,x,y⟩:=s;dsimp only at k l m⊢;subst k l m;refine wab (λc=>Tt.pure ⟨λh=>V,?_⟩) λc=>?_;{unfold nuB;cases f:a.1<;>cases e:b.1<;>simp[f,e]at c⊢};have i:a.1=true/\b.1=true:=by{simpa using c};obtain⟨q,t⟩:=n i.1;obtain⟨b1,u⟩:=o i.2;have g:∀r,r.1=true->r.2.1=min (T.w64 (a.2.1+b.2.1)) 1099511627776->ztq r/\nuB r=(nuB a && nuB b):=λr f e=>by{rw[wI U U]at e;refine⟨λ_=>U,?_⟩;unfold nuB;grind};refine Tt.J (λs=>s.2.2.2.1=true/\s.2.2.2.2.1=min (T.w64 (a.2.1+b.2.1)) 1099511627776) (λj d=>(wab (λ_=>Waj (zc8 _ _) waa λ_ _=>d _ ⟨rfl,rfl⟩) λ_=>Waj (zc8 _ _) waa λ_ _=>d _ ⟨rfl,rfl⟩)) (λs⟨f,e⟩=>?_);.refine Tt.J (λs=>s.2.1=true/\s.2.2.1=min (T.w64 (a.2.1+b.2.1)) 1099511627776) (λj d=>?_) (λs⟨f,e⟩=>Tt.pure (g _ f e));exact wab (λ_=>Waj (zc8 _ _) waa λ_ _=>d _ ⟨f,e⟩) λ_=>d _ ⟨f,e⟩
def jdq(a b:jo)(g:ztq a)(h:ztq b):Tn (λi=>Vc i a b) (λr=>ztq r/\nuB r=(nuB a ||nuB b)):=by unfold Vc;refine wab (λc=>Tt.pure ⟨h,?_⟩) λe=>wab (λc=>Tt.pure ⟨g,?_⟩) λf=>?_;{have:a.1=false:=by{simpa using c};unfold nuB;grind};{have:b.1=false:=by{simpa using c};unfold nuB;rw[this];simp};have e:a.1=true:=by{simpa using e};have f:b.1=true:=by{simpa using f};obtain⟨j,k⟩:=g e;obtain⟨b1,l⟩:=h f;refine Tt.J (λs=>s.1=true/\s.2.1=min a.2.1 b.2.1) (λo d=>(wab (λ_=>Waj (zc8 _ _) waa λ_ _=>Waj (zc8 _ _) waa λ_ _=>d _ ⟨rfl,rfl⟩) λ_=>Waj (zc8 _ _) waa λ_ _=>Waj (zc8 _ _) waa λ_ _=>d _ ⟨rfl,rfl⟩)) (λs⟨m,n⟩=>Tt.pure ⟨λ_=>U,?_⟩);.unfold nuB;grind
def zxe{α:Type}{l:Wam α}(h:l.length=1):∃a,l=[a]:=by
 match l,h with
 |[a],_=>simp
def jhj{α:Type}{l:Wam α}(h:l.length=2):∃a b,l=[a,b]:=by
 match l,h with
 |[a,b],_=>simp
def jms(x:jh)(l:Wam jo)(n:Nat)(e:arK x.1=some n)(m:l.length=n)(k:∀f∈l,ztq f):Tn (λO=>Q8 O x l) (λr=>ztq r/\∀st,zbk ((l.map nuB).reverse++st) (qw x)=nuB r::st):=by
 have p:(qw x).kind=x.1:=rfl;have h0:ztq (true,0,0,false,⟨replicate 4 0,wck⟩,⟨replicate 4 0,wck⟩,()):=λ_=>⟨V,V⟩
 unfold Q8;refine wab (λc=>?_) λA=>?_;{have c:=wci c;rw[c]at e;cases e;have:=wex.1 m;subst this;refine wab (λ_=>Tt.pure ⟨λh=>V,λst=>?_⟩) λ_=>Tt.pure ⟨λ_=>⟨V,V⟩,λst=>?_⟩;{unfold zbk;rw[p,if_pos c];rfl};.unfold zbk;rw[p,if_pos c];rfl};have A:=wcj A;refine wab (λc=>?_) λB=>wab (λc=>?_) λC=>wab (λc=>?_) λD=>?_;{have c:=wci c;rw[c]at e;cases e;obtain⟨a,b,rfl⟩:=jhj m;refine wac a rfl (wac b rfl (Waj (cat_ex a b (k _ V) (k _ V)) waa λr⟨i,j⟩=>Tt.pure ⟨i,λst=>?_⟩));rw[j];unfold zbk;grind};{have c:=wci c;rw[c]at e;cases e;obtain⟨a,b,rfl⟩:=jhj m;refine wac a rfl (wac b rfl (Waj (jdq a b (k _ V) (k _ V)) waa λr⟨i,j⟩=>Tt.pure ⟨i,λst=>?_⟩));rw[j];unfold zbk;grind};{have c:=wci c;rw[c]at e;cases e;obtain⟨a,rfl⟩:=zxe m;refine wac a rfl (Waj (jdq _ a h0 (k _ V)) waa λr⟨i,j⟩=>Tt.pure ⟨i,λst=>?_⟩);rw[j];unfold zbk;rw[p,c];rfl};.have B:=wcj B;have C:=wcj C;have D:=wcj D;refine Tt.J (λs=>l=s.1/\decide (x.1=5\/x.1=6)=s.2.1/\x=s.2.2.1/\(true,0,0,false,⟨replicate 4 0,wck⟩,⟨replicate 4 0,wck⟩,())=s.2.2.2.2) (λG d=>?_) (λs⟨u,v,H,I⟩=>?_);{refine Tt.b1 (wab (λc=>d _ ⟨rfl,?_,rfl,rfl⟩) λc=>Tt.b1 (d _ ⟨rfl,?_,rfl,rfl⟩));{grind};grind};.obtain⟨Q,R,S,T,Y⟩:=s;dsimp only at u v H I⊢;subst u v H I;refine wab (λc=>?_) λc=>?_;{have c:=wci c;have w:n=1:=by{rcases c with c|c<;>(rw[c]at e;cases e;rfl)};subst w;obtain⟨a,rfl⟩:=zxe m;have F:=k a V;refine wac a rfl (Tt.J (λs=>x=s.1/\(true,0,0,false,⟨replicate 4 0,wck⟩,⟨replicate 4 0,wck⟩,())=s.2.2.1/\ztq s.2.2.2/\nuB s.2.2.2=nuB a) (λG d=>wab (λ_=>d _ ⟨rfl,rfl,F,rfl⟩) λ_=>d _ ⟨rfl,rfl,F,rfl⟩) (λs⟨u,v,y,q⟩=>?_));obtain⟨Z,z,t,o⟩:=s;dsimp only at u v y q⊢;subst u v;refine Tt.J (λs=>ztq s.2/\∀st,zbk ((([a]:Wam jo).map nuB).reverse++st) (qw x)=nuB s.2::st) (λG d=>?_) (λs N=>Tt.pure N);refine wab (λg=>Waj (jdq _ o h0 y) waa λr⟨i,j⟩=>d _ ⟨i,λst=>?_⟩) λg=>d _ ⟨y,λst=>?_⟩;{have g:=wci g;rw[j];unfold zbk;rw[p,g];rfl};.have g:=wcj g;have P:=c.resolve_left g;rw[q];unfold zbk;grind};.have c:=wcj c;have M:x.1=2/\n=0:=by{unfold arK at e;grind};obtain⟨L,rfl⟩:=M;have:=wex.1 m;subst this;refine Tt.pure ⟨h0,λst=>?_⟩;unfold zbk;rw[p,L];rfl
def jjm(l:Wam jh)(y:Y7 l=0):Tn (λS=>Y5 S l) (λr=>nuB r=yg (ql l)):=by have G:=Yb y;unfold Y5;refine Tt.J (λs=>nuB s.2=yg (ql l)) (λnw C=>?_) (λs i=>Tt.pure i);refine Waj (jes l (by have:=G.2;omega)) waa λe H=>?_;rw[y]at H;subst H;obtain⟨q,F⟩:=G;refine wae rfl (Tt.loop (λm s=>∃k f st,k<=l.length/\m=l.length-k/\s=(l,(l.length:Int),(k:Int),f,st)/\zk3 (l.take k) 0=some st.length/\st.length<=k/\(∀f∈st,ztq f)/\((l.take k).map qw).foldl zbk []=(st.map nuB).reverse) l.length waa ⟨0,_,[],U,U,rfl,rfl,V,V,rfl⟩ λm s⟨k,f,st,Y,Z,i,z,R,B,d⟩ nx D=>?_);subst i;dsimp only;refine wab (λc=>?_) (λc=>?_);{have c:=wci c;have j:k<l.length:=U;obtain⟨n,g,P,O⟩:=ztt q j z;have L:((l.take (k+1)).map qw).foldl zbk []=zbk (st.map nuB).reverse (qw l[k]):=by{rw[wcp j,wdc,wd8,d];rfl};refine wac _ (atN j) (Tt.J (λs=>s=((n:Int),l,(l.length:Int),(k:Int),f,st,l[k])) (λny o=>?_) (λs i=>?_));{refine Tt.J (λs=>∃b,s=(0,l,(l.length:Int),(k:Int),(l[k]).1,b,f,st,l[k])/\(b=true↔((l[k]).1=3\/(l[k]).1=4))) (λnz u=>?_) (λs⟨b,i,p⟩=>?_);{refine Tt.b1 (wab (λc=>u _ ⟨_,rfl,?_⟩) (λc=>Tt.b1 (u _ ⟨_,rfl,?_⟩)));{have:=wci c;simp[this]};.have:=wcj c;simp[this]};.subst i;dsimp only;refine wab (λc=>o _ ?_) (λc=>?_);{have:=p.1 c;rw[arK,if_pos this]at g;cases g;rfl};.have x:¬((l[k]).1=3\/(l[k]).1=4):=λh=>by{rw[p.2 h]at c;cases c};refine Tt.J (λs=>∃b,s=(0,l,(l.length:Int),(k:Int),b,f,st,l[k])/\(b=true↔((l[k]).1=5\/(l[k]).1=6\/(l[k]).1=7))) (λnu d=>?_) (λs⟨b,i,p⟩=>?_);{refine Tt.b1 (wab (λc=>d _ ⟨_,rfl,?_⟩) (λc=>Tt.b1 (wab (λv=>d _ ⟨_,rfl,?_⟩) (λv=>Tt.b1 (d _ ⟨_,rfl,?_⟩)))));{have:=wci c;simp[this]};{have:=wci v;simp[this]};.have w:=wcj c;have N:=wcj v;simp[w,N]};.subst i;dsimp only;rw[arK,if_neg x]at g;refine wab (λc=>o _ ?_) (λc=>o _ ?_);{rw[if_pos (p.1 c)]at g;cases g;rfl};.rw[if_neg (λh=>by rw[p.2 h]at c;cases c)]at g;split at g<;>cases g;rfl};.subst i;dsimp only;refine Tt.b1 ?_;rw[wI U U];have M:(st.length:Int)-(n:Int)=((st.length-n:Nat):Int):=U;rw[M];refine wac (st.length-n) (by unfold zqg;simp) ?_;have A:(st.drop (st.length-n)).length=n:=X;refine wac _ (yi X U) ?_;rw[wet];refine Waj (jms _ _ n g A λf I=>B f (wfj I)) waa.fst λr⟨r1,r2⟩=>?_;refine wac (st.take (st.length-n)) (by unfold zal;simp) (wac _ (yi X U) (Tt.b1 ?_));rw[wI U U];have T:(st.take (st.length-n)++[r]).length=st.length-n+1:=V;refine D (l.length-(k+1)) _ U ⟨k+1,f,_,U,rfl,rfl,X,U,λf I=>?_,?_⟩;{grind};.have Q:st.map nuB=(st.take (st.length-n)).map nuB++(st.drop (st.length-n)).map nuB:=V;grind};.have c:=wcj c;have t:k=l.length:=U;rw[t,wc5,q]at z;rw[t,wc5,zlm y,z40]at d;have w:=(wd2 z).symm;obtain⟨a,rfl⟩:=zxe w;refine wac _ (vn V) (wac a rfl (C.fst _ ?_));grind
def jf1{l:Wam jh}(a:Y7 l=0):zkr l=yg (ql l):=by have d:Tn (λh=>ym h l) (λx=>x=yg (ql l)):=by{unfold ym;refine Tt.bind ?_ λz hz=>Tt.pure hz;unfold Y8;refine Waj (jjm l a) waa λr b=>wab (λc=>Tt.pure ?_) λc=>Tt.pure ?_;{have c:r.1=false:=X;rw[<- b];unfold nuB;grind};.have c:r.1=true:=X;rw[<- b];unfold nuB;grind};have e:=jcg l (by have:=(Yb a).2;omega);obtain⟨r,⟨N,f⟩,rfl⟩:=d;obtain⟨s,⟨M,g⟩,rfl⟩:=e;exact wd2 ((g (N+M) U).symm.trans (f (N+M) U))
def of7(i:Nat)(c:Int):Vo i c=some (ofK c):=by unfold Vo J ofK;simp only[ja,ifB,ifD];by_cases a:c=1;{subst a;rfl};by_cases b:c=2;{subst b;rfl};by_cases d:c=3;{subst d;rfl};by_cases e:c=4;{subst e;rfl};by_cases f:c=5;{subst f;rfl};by_cases g:c=6;{subst g;rfl};by_cases h:c=7;{subst h;rfl};simp[a,b,d,e,f,g,h]
abbrev mx(b:Bool):List (List Bool):=[[b]]
def was{α:Type}{f:Nat->Wal α}{r:α}(k:Nat)(h:∀n,f (n+k)=some r):Tn f (λx=>x=r):=⟨r,⟨k,λn a=>by
 obtain⟨m,rfl⟩:=Nat.exists_eq_add_of_le' a;grind⟩,rfl⟩
def e_same:Tn (λa=>zj6 a []) (λx=>x=mx true):=was 8 λn=>Wab
def e_set(a:Wb):Tn (λb=>zk7 b a []) (λx=>x=mx false):=was 8 λn=>Wab
def jd0(a b:Bool):Tn (λc=>Z2 c (mx a) (mx b) []) (λx=>x=mx (a ||b)):=was 8 λn=>by cases a<;>cases b<;>kernel_rfl
def jrz(a b:Bool):Tn (λc=>zco c (mx a) (mx b) []) (λx=>x=mx (a && b)):=was 8 λn=>by cases a<;>cases b<;>kernel_rfl
def jhf(a:Bool):Tn (λb=>zeb b (mx a) []) (λx=>x=mx a):=was 12 λn=>by cases a<;>kernel_rfl
def ofK_ar{z:Int}{n:Nat}(h:arK z=some n):ofK z=(n:Int):=by unfold arK at h;unfold ofK;grind
def jr1(l:Wam jh)(hc:Y7 l=0):Tn (λY=>zd7 Y l []) (λr=>r=mx (yg (ql l))):=by
 have hW:=Yb hc;obtain⟨M,Z⟩:=hW;unfold zd7;refine Tt.loop (λm s=>∃k st,k<=l.length/\m=l.length-k/\s=(l,[],(k:Int),st.map mx)/\zk3 (l.take k) 0=some st.length/\st.length<=k/\((l.take k).map qw).foldl zbk []=st.reverse) l.length waa ⟨0,[],U,rfl,rfl,Wab,V,rfl⟩ ?_;rintro _ _ ⟨k,st,hk,rfl,rfl,R,a8,G⟩ nx T;dsimp only;refine wab (λc=>?_) (λc=>?_)
 .have c:=wci c;have w:k<l.length:=U;obtain⟨n,o,a6,S⟩:=ztt M w R;have O:((l.take (k+1)).map qw).foldl zbk []=zbk st.reverse (qw l[k]):=by{rw[wcp w,wdc,wd8,G];rfl};have t:(qw l[k]).kind=(l[k]).1:=rfl;have P:∀b,zbk st.reverse (qw l[k])=b::(st.take (st.length-n)).reverse->Tt wa1.mul (λp=>ja (zal (st.map mx) ((st.length-n:Nat):Int)) λr=>ja (apO 24 [] r) λs=>ja (apO 24 s [mx b]) λu=>ja (some (w64 ((k:Int)+1))) λv=>nx p (l,[],v,u)) (λr=>r=mx (yg (ql l))):=λb Q=>by{refine wac (st.map mx |>.take (st.length-n)) (by unfold zal;simp) (wac _ (yi X U) (wac _ (yi X U) (Tt.b1 ?_)));rw[wI U U];refine T (l.length-(k+1)) _ U ⟨k+1,st.take (st.length-n)++[b],U,rfl,V,by rw[S];simp,X,?_⟩;rw[O,Q];simp};refine wac _ (atN w) (Waj (was (f:=λY=>Vo Y (l[k]).1) 0 λm=>of7 m (l[k]).1) waa.fst λq hq=>?_);rw[ofK_ar o]at hq;subst hq;refine Tt.b1 ?_;have ez:w64 (((st.map mx).length:Int)-(n:Int))=((st.length-n:Nat):Int):=by{rw[wI U X];grind};rw[ez];refine Waj e_same waa.fst λm e=>?_;subst e;refine wac _ (atN w) ?_;refine Tt.J (λs=>∃b,s=(l,[],(k:Int),((st.length-n:Nat):Int),mx b,st.map mx)/\zbk st.reverse (qw l[k])=b::(st.take (st.length-n)).reverse) (λny g=>?_) (λs⟨b,hs,Q⟩=>by subst hs;exact P b Q);have two:n=2->∃a b r,st=r++[a,b]/\st.take (st.length-n)=r/\(st.map mx)[st.length-n]?=some (mx a)/\(st.map mx)[st.length-n+1]?=some (mx b):=λh=>by
   subst h;rcases List.eq_nil_or_concat st with h|⟨r,b,h⟩
   {grind}
   .rcases List.eq_nil_or_concat r with I|⟨r2,a,I⟩
    {grind};.refine⟨a,b,r2,X,by subst I;subst h;simp,?_,?_⟩;{subst I;subst h;simp};.subst I;subst h;simp
  have one:n=1->∃a r,st=r++[a]/\st.take (st.length-n)=r/\(st.map mx)[st.length-n]?=some (mx a):=λh=>by
   subst h;rcases List.eq_nil_or_concat st with h|⟨r,b,h⟩
   {grind};grind
  have zero:n=0->(st.take (st.length-n)).reverse=st.reverse:=λh=>by{subst h;simp};have d:∀{j:Nat}{x:W5},(st.map mx)[j]?=some x->jq (st.map mx).length (j:Int)=some (j:Int)/\atL (st.map mx) (j:Int)=some x:=λ{j x}h=>⟨vn (wcl.1 h).1,Qc U (by assumption)⟩
  have w1:w64 (((st.length-n:Nat):Int)+1)=((st.length-n+1:Nat):Int):=by{rw[wI U U];rfl};refine wab (λH=>?_) λH=>?_;{have H:=wci H;have h0:n=0:=by{rw[H]at o;cases o;rfl};refine wac _ (atN w) (Waj (e_set _) waa.fst λm e=>?_);subst e;exact g _ ⟨false,rfl,by rw[zero h0];unfold zbk;grind⟩};have H:=wcj H;refine wab (λA=>?_) λA=>?_;{have A:=wci A;obtain⟨a,b,r,y,z,i,L⟩:=two (by rw[A]at o;cases o;rfl);refine wac _ (d i).1 (wac _ (d i).2 ?_);rw[w1];refine wac _ (d L).1 (wac _ (d L).2 (Waj (jrz a b) waa.fst λm e=>?_));subst e;exact g _ ⟨a && b,rfl,by rw[z,y];unfold zbk;rw[t,A];simp⟩};have A:=wcj A;refine wab (λB=>?_) λB=>?_;{have B:=wci B;obtain⟨a,b,r,y,z,i,L⟩:=two (by rw[B]at o;cases o;rfl);refine wac _ (d i).1 (wac _ (d i).2 ?_);rw[w1];refine wac _ (d L).1 (wac _ (d L).2 (Waj (jd0 a b) waa.fst λm e=>?_));subst e;exact g _ ⟨a ||b,rfl,by rw[z,y];unfold zbk;rw[t,B];simp⟩};have B:=wcj B;refine wab (λF=>?_) λF=>?_;{have F:=wci F;obtain⟨a,r,y,z,i⟩:=one (by rw[F]at o;cases o;rfl);refine wac _ (d i).1 (wac _ (d i).2 (Waj (jd0 true a) waa.fst λm e=>?_));subst e;exact g _ ⟨true ||a,rfl,by rw[z,y];unfold zbk;rw[t,F];simp⟩};have F:=wcj F;refine wab (λD=>?_) λD=>?_;{have D:=wci D;obtain⟨a,r,y,z,i⟩:=one (by rw[D]at o;cases o;rfl);refine wac _ (d i).1 (wac _ (d i).2 (Waj (jhf a) waa.fst λm e=>?_));subst e;exact g _ ⟨a,rfl,by rw[z,y];unfold zbk;rw[t,D];simp⟩};have D:=wcj D;refine wab (λC=>?_) λC=>?_;{have C:=wci C;obtain⟨a,r,y,z,i⟩:=one (by rw[C]at o;cases o;rfl);refine wac _ (d i).1 (wac _ (d i).2 (Waj (jhf a) waa.fst λm e=>?_));subst e;refine Waj (jd0 true a) waa.fst λm e=>?_;subst e;exact g _ ⟨true ||a,rfl,by rw[z,y];unfold zbk;rw[t,C];simp⟩};have C:=wcj C;have I:(l[k]).1=2/\n=0:=by{unfold arK at o;grind};exact g _ ⟨true,rfl,by rw[zero I.2];unfold zbk;grind⟩
 .have c:=wcj c;have N:k=l.length:=U;rw[N,wc5,M]at R;rw[N,wc5,zlm hc,z40]at G;have h1:=(wd2 R).symm;obtain⟨a,rfl⟩:=zxe h1;simp at G;refine wac _ (vn V) (wac (mx a) rfl (Tt.pure X))
def jvl{l:Wam jh}(a:Y7 l=0):Tn (λf=>zfr f l []) (λb=>b=zkr l):=by
 have o:=(Yb a).2;rw[jf1 a];unfold zfr;refine Tt.bind (R:=λr=>r=if yg (ql l)=true then [0]else []) (Tt.call (?_:Tn (λf=>zcf f l [] 0) _) waa) λr j=>?_
 .unfold zcf;refine Tt.J (λs=>s=(l,[],0,false,[])) (λp e=>?_) (λs k=>?_);{refine Waj (zir l U) waa λc h=>?_;rw[a]at h;subst h;exact Tt.b1 (wae rfl (wae rfl (e _ rfl)))}
  .subst k;refine wae rfl (Waj (jr1 l a) waa λg i=>?_);subst i;refine wac [yg (ql l)] rfl ?_;cases yg (ql l)
   .exact⟨_,⟨8,λn d=>by
     obtain⟨m,rfl⟩:=Nat.exists_eq_add_of_le' d;rfl⟩,rfl⟩
   .exact⟨_,⟨8,λn d=>by
     obtain⟨m,rfl⟩:=Nat.exists_eq_add_of_le' d;rfl⟩,rfl⟩
 .subst j;cases yg (ql l);{exact Tt.pure rfl};.exact Tt.pure rfl
def z97{a:Int}{l:W8}{k:Nat}(b:k<l.length)(h:fsF a l 0=fsF a (l.drop k) k):(l[k]=true->fsF a l 0=fsF a (l.drop (k+1)) (k+1))/\(l[k]=false->fsF a l 0=(a,(k:Int),0,())):=by rw[wcy b]at h;refine⟨λe=>?_,λe=>?_⟩;{rw[h,e];rfl};.rw[h,e];rfl
def jed{g:jb}(P:ze4 g)(Y:g.1.length<=12)(hz:gFd g=zd){re mk:W8}{c:Int×Int×Int}(N:Tn (λh=>zj h g) (λr=>r=re))(R:re.length=g.2.1.length)(M:Tn (λh=>Y2 h g) (λr=>r=mk))(Q:mk.length=g.2.1.length)(L:Tn (λh=>Vt h g) (λr=>r.1=cD c))(S:c.1=0->cD c=zd):Tn (λh=>Yl h g) (λd=>d=jy (jt0 g re mk c)):=by have z:=jqc hz;have T:=z.r;have l:=z7d hz;unfold Yl jt0;simp[jy];refine Waj (zlx g P) waa λd C=>?_;rw[hz]at C;subst C;refine wae rfl (Tt.loop (λm s=>∃k,k<=g.1.length/\m=g.1.length-k/\s=((k:Int),g,(0,0,0,()))/\jkt g=fs2 10 0 ((g.1.drop k).map λx=>!zkr x.2.1) k) g.1.length waa ⟨0,U,Wab,rfl,rfl⟩ λm s⟨k,D,F,n,a⟩ J v=>?_);subst n;dsimp only;refine wad (λG=>?_) λG=>?_;{have f:k<g.1.length:=U;rw[wcy f,wc9]at a;refine Tt.at f (Waj (jvl (l _ (wcm f))) waa.fst λb O=>?_);subst O;refine wab (λj=>Tt.pure ?_) λj=>Tt.b1 ?_;{rw[j]at a;have e:jkt g=(10,(k:Int),0,()):=a;grind};.rw[j]at a;rw[wI U U];exact v (g.1.length-(k+1)) _ U ⟨k+1,U,rfl,rfl,a⟩};have q:(jkt g).1=0:=by{rw[a,wds U];rfl};rw[if_pos q];refine Waj N waa.fst λr B=>Waj M waa.fst λi u=>?_;subst B u;refine Tt.loop (λm s=>∃k,k<=g.2.1.length/\m=g.2.1.length-k/\s=(r,i,(k:Int),g,(0,0,0,()))/\fsF 13 r 0=fsF 13 (r.drop k) k) g.2.1.length waa.fst ⟨0,U,Wab,rfl,rfl⟩ λm s⟨k,D,F,n,a⟩ ny w=>?_;subst n;dsimp only;refine wad (λj=>?_) λj=>?_;{have f:k<r.length:=U;obtain⟨p,I⟩:=z97 f a;refine Tt.at f (wab (λo=>Tt.pure ?_) λo=>Tt.b1 ?_);{grind};.rw[wI U U];exact w (g.2.1.length-(k+1)) _ U ⟨k+1,U,rfl,rfl,p (by simpa using o)⟩};have A:(fsF 13 r 0).1=0:=by{rw[a,wds U];rfl};rw[if_pos A];refine Tt.loop (λm s=>∃k,k<=g.2.1.length/\m=g.2.1.length-k/\s=(i,(k:Int),g,(0,0,0,()))/\fsF 14 i 0=fsF 14 (i.drop k) k) g.2.1.length waa.fst.fst ⟨0,U,Wab,rfl,rfl⟩ λm s⟨k,D,F,n,a⟩ nz y=>?_;subst n;dsimp only;refine wad (λo=>?_) λo=>?_;{have f:k<i.length:=U;obtain⟨p,I⟩:=z97 f a;refine Tt.at f (wab (λH=>Tt.pure ?_) λH=>Tt.b1 ?_);{grind};.rw[wI U U];exact y (g.2.1.length-(k+1)) _ U ⟨k+1,U,rfl,rfl,p X⟩};.have t:(fsF 14 i 0).1=0:=by{rw[a,wds U];rfl};rw[if_pos t];refine Waj L waa.fst.fst.fst λx Z=>Tt.pure ?_;grind
def jeg{g:jb}(ht:g.1.length<=12){P:Wam jd}{n:jl}{bd:je×Int×Int×Unit}{lt:W7}{C:je}{tb:W4×Int×Unit}(I:Tn (λf=>Yl f g) (λd=>d=jy P))(H:Tn (λf=>zb4 f g.1) (λr=>r=n))(G:Tn (λf=>za6 f n g.2.2.2.2.1) (λr=>r=bd))(L:bd.2.2.1=0->Tn (λf=>yr f bd.1) (λr=>∀x,x∈r↔x∈lt))(v:bd.2.2.1=0->Tn (λf=>yr f bd.1) (λr=>r.length<=1000000))(w:bd.2.2.1=0->Tn (λf=>Yi f bd.1) (λr=>r=C))(u:Tn (λf=>Y0 f g) (λr=>r=tb)):Tn (λf=>Qk f g) (λr=>r=jf5 (jy (P++[zpr g.1.length bd.2.2.1 lt])) C tb.1):=by rw[vz];unfold Qk jf5;refine Waj I waa λd N=>?_;rw[<- N];refine wad (λc=>Tt.pure ?_) λc=>?_;{grind};have c:=wd9.1 c;rw[if_pos c];refine Waj H waa λn' Q=>?_;subst Q;refine Waj G waa λb M=>?_;subst M;refine wad (λj=>Tt.pure ?_) λj=>?_;{have e:jy [zpr g.1.length b.2.2.1 lt]=(16,0,0,()):=by{unfold zpr;rw[if_neg j];rfl};rw[e];rfl};have j:=wd9.1 j;have e:jy [zpr g.1.length b.2.2.1 lt]=fs2 13 1 ((range g.1.length).map λ(i:Nat)=>decide ((i:Int)∈lt)) 0:=by{unfold zpr;rw[if_pos j];simp only[jy];split;{rename_i h;exact(jej V h).symm};rfl};rw[e];refine Waj (wbz (L j) (v j)) waa λl⟨O,y⟩=>?_;generalize S:((range g.1.length).map λ(i:Nat)=>decide ((i:Int)∈lt))=q;have T:q.length=g.1.length:=X;have A:∀i(h:i<q.length),q[i]=decide ((i:Int)∈l):=λi h=>by{have F:decide ((i:Int)∈l)=decide ((i:Int)∈lt):=by{rw[decide_eq_decide];exact O _};rw[F];simp[<- S]};refine Tt.loop (λm s=>∃i,i<=g.1.length/\m=g.1.length-i/\s=(l,(i:Int),g,⟨replicate 256 0,wck⟩,0,(0,0,0,()),b.1,[],[])/\fs2 13 1 q 0=fs2 13 1 (q.drop i) i) g.1.length waa ⟨0,U,Wab,rfl,rfl⟩ λm s⟨i,J,hm,Z,a⟩ nx z=>?_;subst Z;dsimp only;refine wad (λD=>?_) λD=>?_;{have p:i<q.length:=U;rw[wcy p,A i p]at a;refine Waj (zdd l _ y) waa.fst λo R=>?_;rw[<- R]at a;refine wab (λk=>Tt.pure ?_) λk=>Tt.b1 ?_;{have k:o=false:=X;rw[k]at a;rw[a];rfl};.have k:o=true:=X;rw[k]at a;rw[wI U U];exact z (g.1.length-(i+1)) _ U ⟨i+1,U,rfl,rfl,a⟩};.rw[wds U]at a;rw[a];exact Waj u waa.fst λt B=>Waj (w j) waa.fst λr Y=>Tt.pure (by rw[B,Y];rfl)
def z7b{g:jb}(e:ze4 g)(hz:(gFd g).1≠0):Tn (λb=>Qk b g) (λr=>r=(zD,[],gFd g,())):=by have c:Tn (λb=>Yl b g) (λd=>d=gFd g):=by{unfold Yl;refine Waj (zlx g e) waa λd a=>?_;subst a;exact wah (wdf hz) (Tt.pure rfl)};unfold Qk;refine Waj c waa λd a=>?_;subst a;exact wah (wdf hz) (Tt.pure rfl)
def jsi{d:je}{a:Nat->Bool}(b:DSz d):(zah d a).2.2.1.length<=1000000/\(∀l∈(zah d a).2.2.1,l.length<=1000000)/\(zah d a).2.2.2.1.length<=1000000:=by have f:=b.n;have g:=zpa a d.2.2.1.length;unfold zah;refine⟨X,λl e=>?_,X⟩;obtain⟨i,c,rfl⟩:=wc7.1 e;have h:=z6b c;have j:=b.r _ (zgd (z:=(i:Int)) U U);grind
def jsy{a:Nat->Bool}(h0:a 0=true):∀{N:Nat},0<N->0<(keL a N).length
 |N+1,_=>by have:0∈keL a (N+1):=by{unfold keL;grind};grind
def jrt{a:Nat->Bool}{N:Nat}:∀{i:Nat},i<N->a i=true->(keL a i).length<(keL a N).length:=by intro i b c;induction N with|zero=>{omega}|succ N d=>rw[zi4];grind
def jph{d:je}{a:Nat->Bool}(m:DSz d)(hm:MOk d)(h0:a 0=true):DSz (zah d a)/\MOk (zah d a):=by
 have x:=m.n;have v:0<d.2.2.1.length:=hm.n0;have y:=zpa a d.2.2.1.length;have f:∀i:Int,0<=i->i<((zah d a).2.2.1.length:Int)->∃j,j<d.2.2.1.length/\at' (zah d a).2.2.1 i=(at' d.2.2.1 (j:Int)).map (trZ a):=λi k b=>by
  obtain⟨n,rfl⟩:∃n:Nat,i=(n:Int):=⟨i.toNat,U⟩
  have h:n<(zah d a).2.2.1.length:=U;rw[yf h];unfold zah at h⊢;simp only[wc1]at h;simp only[List.getElem_map];exact⟨_,z6b (wcm h),rfl⟩
 refine⟨⟨m.c,m.w,?_,?_,λl o=>?_⟩,⟨?_,?_,m.w,λi k b=>?_,λi c k b s g=>?_⟩⟩;{unfold zah;simp only[wc1];omega};{unfold zah;simp only[wc1];omega};{unfold zah at o;obtain⟨i,k,rfl⟩:=wc7.1 o;have A:=z6b k;rw[wc1];exact m.r _ (zgd (l:=d.2.2.1) (z:=(i:Int)) U U)};{unfold zah;simp only[wc1];exact jsy h0 v};{unfold zah;simp only[wc1]};{obtain⟨j,t,e⟩:=f i k b;rw[e,wc1];exact hm.row (j:Int) U U}
 .obtain⟨j,t,e⟩:=f i k b;have g:c<d.2.1:=g;have B:=hm.row (j:Int) U U;have p:=hm.nx (j:Int) c U U s g;obtain⟨n,rfl⟩:∃n:Nat,c=(n:Int):=⟨c.toNat,U⟩
  have h:n<(at' d.2.2.1 (j:Int)).length:=U;rw[e,yf (l:=(at' d.2.2.1 (j:Int)).map (trZ a)) (by rw[wc1];exact h),List.getElem_map];rw[yf (l:=at' d.2.2.1 (j:Int)) h]at p;generalize (at' d.2.2.1 (j:Int))[n]=z at p;have q:(zah d a).2.2.1.length=(keL a d.2.2.1.length).length:=by{unfold zah;simp only[wc1]};rw[q];unfold trZ;by_cases hz:0<=z;{rw[if_pos hz];unfold nuI;split;{rename_i u;have:=jrt (N:=d.2.2.1.length) (i:=z.toNat) U u;omega};.omega};.rw[if_neg hz];omega
def js2{d:je}{E:Nat->Nat->Bool}(h:Eqv E)(n:ClsAt E d.1 256)(o:d.2.1=((qx E 256).length:Int))(c:DSz d)(hm:MOk d){m:Nat}(s:m<=1000000)(g:∀x∈d.2.2.2.1, -1<=x/\x<(m:Int)):∃lt,lt.length<=1000000/\Tn (λa=>Ja a d) (λr=>r=lt)/\Tn (λa=>yr a d) (λr=>∀x,x∈r↔x∈lt)/\Tn (λa=>yr a d) (λr=>r.length<=1000000)/\∃j,j 0=true/\Tn (λa=>Zq a d) (λr=>r=zah d j)/\Tn (λa=>Yi a d) (λr=>r=zah d j):=by
 have k:=jki h n o c hm λx e=>(g x e).1;have l:=z1q h n o c hm λx e=>(g x e).1;obtain⟨lt,p,q,f⟩:=(jei d c hm k).val;have b:=zy8 l c hm;refine⟨lt,U,p,b.mono λr b x=>(b.2 x).trans (f x).symm,b.mono λr b=>?_,_,rfl,jtd d c hm k,jfy d c hm l⟩;have t:RN m r:=⟨b.1,λx e=>by
  obtain⟨i,_,u,v⟩:=(b.2 x).1 e;exact⟨v,(g x (wcq u)).2⟩⟩
 have:=t.len;omega
def zD_b:(zD:je).2.2.1.length<=1000000/\(∀l∈(zD:je).2.2.1,l.length<=1000000)/\(zD:je).2.2.2.1.length<=1000000:=V
def jf6(g:jb)(J:GBu g)(hn:(∀x∈g.1,x.1.length<=9223372036854775807)/\(∀x∈g.2.1,x.length<=9223372036854775807)/\∀x∈g.2.2.1,x.2.1.length<=9223372036854775807)(ho:∀t∈g.1,∀x∈t.2.1,zeu x.2.1):∃r:je×W4×jd×Unit,Tn (λj=>zf j g) (λx=>x=r)/\Tn (λj=>Qk j g) (λx=>x=r) /\
  (r.1.2.2.1.length<=1000000/\(∀l∈r.1.2.2.1,l.length<=1000000)/\r.1.2.2.2.1.length<=1000000)/\(r.2.1.length<=1000000/\∀l∈r.2.1,l.length<=1000000)/\(r.2.2.1.1=0->DSz r.1/\MOk r.1/\Tn (λj=>Jt j r.1.1) (λx=>x=r.1.2.1)):=by
 have h1:=J.t;have h2:=J.r;have h3:=J.p;have h4:=J.n;have h5:=J.s;have Q:zag g:=⟨⟨U,U,U⟩,λx hx=>by have:=z0d hx;omega⟩
 have u:ze4 g:=⟨Q,hn.1,hn.2.1,hn.2.2⟩
 by_cases hz:gFd g=zd
 rotate_left
 ·have O:(gFd g).1≠0:=λh=>hz (z4s h);exact⟨_,jf8 Q O,z7b u O,zD_b,V,λh=>absurd h O⟩
 obtain⟨b2,z⟩:=jp2 Q hz;obtain⟨em,re,mk,al,B,c,R⟩:=FmA_of Q hz;have S:=R.k;have b:=S.kn
 -- the reference's sets
 obtain⟨r2,a2,c6⟩:=(z15 g u hz z).val;obtain⟨m2,c1,c7⟩:=(zus g u hz z true).val;obtain⟨e2,b8,c4⟩:=(zus g u hz z false).val;obtain rfl:=jce c6 ⟨b.hrl,b.rest,b.recl,S.res⟩;obtain rfl:=z99 c7 R.m;obtain rfl:=z99 c4 ⟨b.hel,S.emt,S.ems⟩;have hM:Tn (λj=>Y2 j g) (λr=>r=m2):=by
  unfold Y2;exact Waj c1 waa λr M=>Tt.pure M
 have hE:Tn (λj=>Jv j g) (λr=>r=e2):=by
  unfold Jv;exact Waj b8 waa λr M=>Tt.pure M
 have hA:EmX g e2 al:=⟨⟨hE,b.hel,b.fic⟩,S.als⟩
 have hF:=z84 g u hz z hA a2 b.hrl b.hBl S.Bs b.hBe b.foc;have hC:Tn (λj=>Vt j g) (λr=>r.1=cD c):=(z42 u hz z hA hF b.hBl b.hBr).mono λr⟨d,e,hd⟩=>by
  rw[e,hd.one R.c]
 have b7:c.1=0->cD c=zd:=λh=>by
  rcases R.c with⟨rfl,_⟩|⟨q,rfl,_⟩
  ·rfl
  ·cases h
 have hP:=jed u U hz a2 b.hrl hM R.m.1 hC b7
 -- the tables
 obtain⟨tb,b4,Z⟩:=(jkz Q b2 z b).val;have Y:Tn (λj=>Y0 j g) (λr=>r=tb):=(jex u hz z hA hF b.hBl b.hBr).mono λr M=>M.one Z;have b5:tb.1.length<=1000000/\∀l∈tb.1,l.length<=1000000:=by
  obtain⟨d,_,k1,k2⟩:=Z;by_cases e:d.1=0
  ·obtain⟨ll,rfl,a0⟩:=k2 e;refine⟨by have:=a0.n;dsimp only;omega,λl hl=>?_⟩;obtain⟨i,hi⟩:=wdb hl;have:=a0.w i l hi;omega
  ·rw[k1 e];simp
 -- the machines
 have L:=z7d hz;obtain⟨I,hZ,hO⟩:=netK_R L U;have G:=z5j (P:=zeu) ho g.1.length (wcs _);have F:=jfg hz;obtain⟨v,hB,a,ha,D⟩:=(jj5 (Yu g.1 g.1.length) (N:=zdi g.1) U hZ G I g.2.2.2.2.1 F h5).val;have a9:Tn (λj=>zbu j (Yu g.1 g.1.length) g.2.2.2.2.1) (λr=>r=v):=(jjl (Yu g.1 g.1.length) (N:=zdi g.1) U hZ G I _ F h5).mono λr⟨a',b6,M⟩=>by
  obtain rfl:=ClsAt.one b6 ha;rw[M,D]
 have b1:=jvh g.1 U L U;have T:=jfl g.1 U L U;have H:=ziu (Yu g.1 g.1.length).1;have hW:=zd2 (Zi (Yu g.1 g.1.length).1) 256;have hD:DSz v.1:=by
  rw[D];exact ju1 ⟨_,zpf H ha⟩ hW F h5
 have f:∃lt A,lt.length<=1000000/\(A.2.2.1.length<=1000000/\(∀l∈A.2.2.1,l.length<=1000000)/\A.2.2.2.1.length<=1000000)/\(v.2.2.1=0->DSz A/\MOk A/\Tn (λj=>Jt j A.1) (λx=>x=A.2.1))/\(v.2.2.1=0->Tn (λj=>Ja j v.1) (λr=>r=lt)/\Tn (λj=>yr j v.1) (λr=>∀x,x∈r↔x∈lt)/\Tn (λj=>yr j v.1) (λr=>r.length<=1000000)/\Tn (λj=>Zq j v.1) (λr=>r=A)/\Tn (λj=>Yi j v.1) (λr=>r=A)):=by
  by_cases h0:v.2.2.1=0
  rotate_left
  ·exact⟨[],zD,V,zD_b,λh=>absurd h h0,λh=>absurd h h0⟩
  have hs:∃q,zn5 (Yu g.1 g.1.length) a (qx (Zi (Yu g.1 g.1.length).1) 256).length g.2.2.2.2.1 202 0 [[]] [] []=some (some q):=by
   rw[D]at h0;cases e:zn5 (Yu g.1 g.1.length) a (qx (Zi (Yu g.1 g.1.length).1) 256).length g.2.2.2.2.1 202 0 [[]] [] []with
   |none=>rw[e]at h0;cases h0
   |some o=>
    cases o with
    |none=>rw[e]at h0;cases h0
    |some q=>exact⟨q,rfl⟩
  obtain⟨q,hq⟩:=hs;obtain⟨hm,hl⟩:=jpu hW F (m:=(g.1.length:Int)) U hO I.o hq;have y:v.1=(a,((qx (Zi (Yu g.1 g.1.length).1) 256).length:Int),q.2.1,q.2.2,()):=by rw[D,hq];rfl
  obtain⟨lt,k1,k2,k3,k4,kp,k0,k5,k6⟩:=js2 (d:=v.1) H (by rw[y];exact ha) (by rw[y]) hD (by rw[y];exact hm) (m:=g.1.length) U (by rw[y];exact hl);have a3:=jph hD (by rw[y];exact hm) k0;exact⟨lt,_,k1,jsi hD,λ_=>⟨a3.1,a3.2,(znl H (a:=v.1.1) (by rw[y];exact ha)).mono λx hx=>by rw[hx];show _=v.1.2.1;rw[y]⟩,λ_=>⟨k2,k3,k4,k5,k6⟩⟩
 obtain⟨lt,A,c0,c3,a1,f⟩:=f;have a8:=jr6 Q U hz R b1 a9 (λh=>(f h).1) c0 (λh=>(f h).2.2.2.1) b4;have b3:=jeg U hP T hB (λh=>(f h).2.1) (λh=>(f h).2.2.1) (λh=>(f h).2.2.2.2) Y;refine⟨_,a8,b3,?_,?_,λh=>?_⟩
 ·unfold jf5;split
  ·exact c3
  ·exact zD_b
 ·unfold jf5;split
  ·exact b5
  ·simp
 ·unfold jf5 at h⊢;split at h
  ·rename_i C;rw[if_pos C];have h3:=zg2 C (zpr g.1.length v.2.2.1 lt) V;refine a1 ?_;by_cases e:v.2.2.1=0
   ·exact e
   ·unfold zpr at h3;rw[if_neg e]at h3;cases h3
  ·rename_i C;exact absurd h C
abbrev bS(d:je)(lb:Int):Nat->Prop:=λi=>i<d.2.2.1.length/\Jw d i=lb
def z3d{d:je}(lb:Int)(hd:DSz d)(hm:MOk d):Tn (λnn=>zaz nn d lb) (λr=>r=za9 d.2.2.1.length (aE d) (bS d lb)):=by
 have n0:0<d.2.2.1.length:=hm.n0;have hn:=hd.n;have hw:=hm.w;have e8:0<=d.2.1:=hw.1;have e9:d.2.1<=256:=hw.2;have c0:d.2.2.2.1.length=d.2.2.1.length:=hm.lab;unfold zaz;refine Tt.b1 (wac _ (mkN (n:=d.2.2.1.length) U U) ?_);generalize hN:d.2.2.1.length=N at n0 hn c0⊢;have c6:=zxc (replicate N false);rw[wck]at c6;refine Tt.loop (λm s=>∃(k:Nat)(a:W8),k<=N+1/\m=N+1-k/\s=(lb,(k:Int),d,a)/\a.length=N/\(∀i,onB a i->Rch (aE d) (bS d lb) i)/\(a=za9 N (aE d) (bS d lb)\/offs a+k<=N)) (N+1) waa ⟨0,_,U,U,rfl,V,λi hi=>absurd hi zmx,.inr U⟩ λm s⟨k,a,hk,e6,G,ha,d1,a8⟩ nx d6=>?_;subst G;dsimp only;rw[ha];refine wab (λc=>?_) λc=>Tt.pure ?_;rotate_left
 {have c:=wcj c;rcases a8 with h|h;{exact h};.omega};have c:=wci c;refine Tt.loop (λm s=>∃(i:Nat)(b:W8),i<=N/\m=N-i/\s=(lb,(k:Int),(i:Int),d,b)/\b.length=N/\LeB a b/\(∀i,onB b i->Rch (aE d) (bS d lb) i)/\(a=b->∀O,O<i->(Jw d O=lb->onB a O)/\∀j,onB a j->dE d O j->onB a O)) N waa.fst ⟨0,a,U,U,rfl,ha,LeB.refl a,d1,λ_ O h=>U⟩ λm s⟨i,b,hi,e5,G,hb,C,y,a0⟩ ny d7=>?_;subst G;dsimp only;rw[hb];refine wab (λc1=>?_) λc1=>?_
 .have c1:=wci c1;have a2:i<N:=U;have B:i<d.2.2.1.length:=U;have f:i<b.length:=U;have b8:i<d.2.2.2.1.length:=U;have Q:Jw d i=d.2.2.2.1[i]:=yf b8;have a9:=atN B;have c7:((d.2.2.1[i]).length:Int)=d.2.1:=by{have:=hm.row i U (by show(i:Int)<d.2.2.1.length;omega);rw[yf (l:=d.2.2.1) B]at this;exact this};have D:∀(c:Nat)(hc:c<(d.2.2.1[i]).length),nxt d i c=(d.2.2.1[i])[c]:=λc hc=>zh2 B hc;have S:∀(c:Nat)(hc:c<(d.2.2.1[i]).length), -1<=(d.2.2.1[i])[c]/\(d.2.2.1[i])[c]<d.2.2.1.length:=λc hc=>by{have : -1<=nxt d i (c:Int)/\nxt d i (c:Int)<d.2.2.1.length:=hm.nx i c U (by show(i:Int)<d.2.2.1.length;omega) U (by show(c:Int)<d.2.1;omega);rw[D c hc]at this;exact this};generalize d.2.2.1[i]=row at a9 c7 S D;refine Tt.J (λs=>∃b',s=(lb,(k:Int),(i:Int),d,b')/\b'.length=N/\LeB b b'/\(∀i,onB b' i->Rch (aE d) (bS d lb) i)/\(Jw d i=lb->onB b' i)) (λnz F=>?_) λs⟨b1,G,d2,x,b4,d5⟩=>?_;{refine wac _ (vn a2) (wac _ (atN f) (wab (λI=>?_) λI=>?_));{refine wac _ (vn a2) (wac _ (yu true f) (F _ ⟨_,rfl,by simpa using hb,LeB.set f,λj A=>?_,λ_=>(yp f).2 (.inl rfl)⟩));rcases(yp f).1 A with h|h;{subst h;exact y i (by unfold onB;rw[wch f,I])};.exact y j h};.refine wac _ (atN b8) (wac _ (vn a2) ?_);by_cases u:d.2.2.2.1[i]=lb;{rw[wdf u];refine wac _ (yu true f) (F _ ⟨_,rfl,by simpa using hb,LeB.set f,λj A=>?_,λ_=>(yp f).2 (.inl rfl)⟩);rcases(yp f).1 A with h|h;{subst h;exact .base ⟨B,Q.trans u⟩};.exact y j h};.rw[wc3 u];refine wac _ (yu false f) (F _ ⟨b,by rw[zi3 f I],hb,LeB.refl b,y,λh=>absurd (Q.symm.trans h) u⟩)};subst G;dsimp only;refine Tt.loop (λm s=>∃(c:Nat)(p:W8),c<=row.length/\m=row.length-c/\s=(lb,(k:Int),(i:Int),(c:Int),d,p)/\p.length=N/\LeB b1 p/\(∀i,onB p i->Rch (aE d) (bS d lb) i)/\(a=p->∀Y:Nat,Y<c->∀j:Nat,nxt d i Y=j->onB a j->onB a i)) row.length waa.fst.fst ⟨0,b1,U,U,rfl,d2,LeB.refl b1,b4,λ_ Y h=>U⟩ λm s⟨c,p,hc,e4,G,Z,o,v,b6⟩ nz F=>?_;subst G;dsimp only;have g:i<p.length:=U;refine wab (λI=>?_) λI=>?_
  .have I:=wci I;have a1:c<row.length:=U;have hq:=S c a1;have a3:=D c a1;refine Tt.J (λs=>∃T,s=(lb,(k:Int),(i:Int),(c:Int),d,T)/\T.length=N/\LeB p T/\(∀i,onB T i->Rch (aE d) (bS d lb) i)/\(∀j:Nat,nxt d i c=j->onB p j->onB T i)) (λnu c4=>?_) λs⟨T,G,d3,R,b5,d4⟩=>?_
   .refine wac _ a9 (wac _ (atN a1) (Tt.J (λs=>∃t,s=(lb,(k:Int),(i:Int),(c:Int),t,d,p)/\(t=true↔∃j:Nat,nxt d i c=j/\onB p j)) (λnv c5=>?_) λs⟨t,G,ht⟩=>?_))
    .refine Tt.b1 (wab (λu=>?_) λu=>c5 _ ⟨false,rfl,⟨λh=>(by cases h),λ⟨j,P,_⟩=>?_⟩⟩)
     .have u:=wci u;obtain⟨z,hz⟩:∃z:Nat,row[c]=(z:Int):=⟨(row[c]).toNat,U⟩
      have M:z<p.length:=U;rw[hz];refine wac _ (vn M) (wac _ (atN M) (c5 _ ⟨_,rfl,⟨λh=>⟨z,by rw[a3,hz],by unfold onB;rw[wch M,h]⟩,λ⟨j,P,H⟩=>?_⟩⟩));rw[a3,hz]at P;have:z=j:=U;subst this;unfold onB at H;rw[wch M]at H;exact wd2 H
     .have u:=wcj u;rw[a3]at P;omega
    .subst G;dsimp only;refine wab (λu=>?_) λu=>c4 _ ⟨p,rfl,Z,LeB.refl p,v,λj P H=>by rw[ht.2 ⟨j,P,H⟩]at u;cases u⟩;refine wac _ (vn g) (wac _ (yu true g) (c4 _ ⟨_,rfl,by simpa using Z,LeB.set g,λj A=>?_,λ_ _ _=>(yp g).2 (.inl rfl)⟩));rcases(yp g).1 A with h|h;{subst h;obtain⟨j,P,H⟩:=ht.1 u;exact .step (v j H) ⟨B,c,U,by show(c:Int)<d.2.1;omega,P⟩};.exact v j h
   .subst G;dsimp only;refine Tt.b1 ?_;rw[wI U U];refine F (row.length-(c+1)) _ U ⟨c+1,T,U,rfl,rfl,d3,o.trans R,b5,λe Y e1 j A b9=>?_⟩;have L:a=p:=((C.trans x).trans o).antisymm (e▸R);by_cases h:Y=c;{subst h;have:=d4 j A (L▸b9);rwa [<- e]at this};.exact b6 L Y U j A b9
  .have I:=wcj I;refine Tt.b1 ?_;rw[wI U U];refine(d7 (N-(i+1)) _ U ⟨i+1,p,U,rfl,rfl,Z,(C.trans x).trans o,v,λe O e3=>?_⟩).fst;have L:a=b:=C.antisymm (e▸x.trans o);have a7:a=b1:=(C.trans x).antisymm (e▸o);by_cases h:O=i;{subst h;refine⟨λh=>by have:=d5 h;rwa [<- a7]at this,λj A hE=>?_⟩;obtain⟨P,Y,h0,H,h3⟩:=hE;obtain⟨q,rfl⟩:=wdu h0;have H:(q:Int)<d.2.1:=H;exact b6 e q U j h3 A};.exact a0 L O U
 .have c1:=wcj c1;refine Tt.b1 ?_;rw[wI U U];have c9:Round (aE d) (bS d lb) a b:=⟨C,y,λe=>⟨λi hi=>(a0 e i (by have:=hi.1;omega)).1 hi.2,λj i A hE=>(a0 e i (by have:=hE.1;omega)).2 j A hE⟩⟩
  exact(d6 (N+1-(k+1)) _ U ⟨k+1,b,U,rfl,rfl,hb,y,c9.next ha a8⟩).fst
def znu{d:je}(lb:Int)(hd:DSz d)(hm:MOk d):Tn (λnn=>zdy nn d lb) (λr=>r=za9 d.2.2.1.length (aE d) (bS d lb)):=by
 have n0:0<d.2.2.1.length:=hm.n0;have hn:=hd.n;have g7:0<=d.2.1:=hm.w.1;have g8:d.2.1<=256:=hm.w.2;have c7:d.2.2.2.1.length=d.2.2.1.length:=hm.lab;unfold zdy;refine Tt.b1 (wac _ (mkN (n:=d.2.2.1.length) U U) ?_);generalize hN:d.2.2.1.length=N at n0 hn c7⊢;refine Tt.loop (λm s=>∃(o:Bool)(a:W8),m=2*offs a+(if o=true then 1 else 0)/\s=(lb,o,d,a)/\a.length=N/\(∀i,onB a i->Rch (aE d) (bS d lb) i)/\(o=false->a=za9 N (aE d) (bS d lb))) _ waa ⟨true,_,rfl,rfl,V,λi hi=>absurd hi zmx,λh=>X⟩ λm s⟨o,a,e9,L,ha,b4,e3⟩ nx f4=>?_;subst L;dsimp only;refine wab (λc=>?_) λc=>Tt.pure (e3 c);subst c;rw[hN];refine Tt.loop (λm s=>∃(i:Nat)(o:Bool)(b:W8),i<=N/\m=N-i/\s=(lb,o,d.2.2.1,(N:Int),(i:Int),d,b)/\b.length=N/\LeB a b/\(∀i,onB b i->Rch (aE d) (bS d lb) i)/\(o=true->offs b<offs a)/\(o=false->a=b/\∀P,P<i->(Jw d P=lb->onB a P)/\∀j,onB a j->dE d P j->onB a P)) N waa.fst ⟨0,false,a,U,Wab,rfl,ha,LeB.refl a,b4,(λh=>X),λ_=>⟨rfl,λP h=>U⟩⟩ λm s⟨i,o,b,hi,g4,L,hb,c9,F,a2,x⟩ ny f5=>?_;subst L;dsimp only;refine wab (λc1=>?_) λc1=>?_
 ·have c1:=wci c1;have g3:i<N:=U;have H:i<d.2.2.1.length:=U;have p:i<b.length:=U;have c6:i<d.2.2.2.1.length:=U;have c8:Jw d i=d.2.2.2.1[i]:=yf c6;have b5:=atN H;have d7:((d.2.2.1[i]).length:Int)=d.2.1:=by
   have:=hm.row i U U;rw[yf (l:=d.2.2.1) H]at this;omega
  have I:∀(c:Nat)(hc:c<(d.2.2.1[i]).length),nxt d i c=(d.2.2.1[i])[c]:=λc hc=>zh2 H hc;have T:∀(c:Nat)(hc:c<(d.2.2.1[i]).length), -1<=(d.2.2.1[i])[c]/\(d.2.2.1[i])[c]<d.2.2.1.length:=λc hc=>by
   have : -1<=nxt d i (c:Int)/\nxt d i (c:Int)<d.2.2.1.length:=hm.nx i c U U U U;rw[I c hc]at this;exact this
  generalize d.2.2.1[i]=row at b5 d7 T I
  -- what is so of the state behind a row
  refine Tt.J (λs=>∃(g:Bool)(C:W8),s=(lb,g,d.2.2.1,(N:Int),(i:Int),d,C)/\C.length=N/\LeB b C/\(∀i,onB C i->Rch (aE d) (bS d lb) i)/\(g=true->offs C<offs a)/\(g=false->a=C/\(Jw d i=lb->onB a i)/\∀j,onB a j->dE d i j->onB a i)/\(g=false->o=false)) (λnz d4=>?_) λs⟨g,b1,L,e4,d0,b6,d2,S,f0⟩=>?_
  ·refine wac _ b5 (wac _ (vn U) (wac _ (atN p) (wab (λc2=>?_) λc2=>?_)))
   ·have d5:onB b i:=by unfold onB;rw[wch p,c2]
    exact d4 _ ⟨o,b,rfl,hb,LeB.refl b,F,a2,λh=>⟨(x h).1,λ_=>(x h).1▸d5,λ_ _ _=>(x h).1▸d5⟩,id⟩
   ·have Y:b[i]?=some false:=by rw[wch p,c2]
    refine wac _ (atN c6) (wac _ (vn U) (wac _ (yu _ p) ?_))
    let Z:Nat->Prop:=λc=>Jw d i=lb\/∃A j:Nat,A<c/\nxt d i A=j/\onB b j
    refine Tt.loop (λm s=>∃(c:Nat)(t:W8),c<=row.length/\m=row.length-c/\s=(lb,o,(i:Int),d.2.2.1,(N:Int),(i:Int),row,(row.length:Int),(c:Int),d,t)/\((t=b/\¬Z c)\/(t=b.set i true/\Z c))) row.length waa.fst.fst ⟨0,_,U,U,rfl,?_⟩ λm s hI nw f3=>?_
    ·by_cases e:d.2.2.2.1[i]=lb
     ·rw[wdf e];exact .inr ⟨rfl,.inl (c8.trans e)⟩
     ·rw[wc3 e];refine .inl ⟨zi3 p c2,λh=>?_⟩;omega
    obtain⟨c,t,hc,e8,L,hP⟩:=hI;subst L;dsimp only;have e5:t.length=N:=by rcases hP with⟨rfl,_⟩|⟨rfl,_⟩<;>simp[hb]
    have f:i<t.length:=U;refine wab (λc3=>?_) λc3=>?_
    ·have c3:=wci c3;have G:c<row.length:=U;have hq:=T c G;have a3:=I c G;refine wac _ (atN G) (Tt.J (λs=>∃b3,s=(lb,o,(i:Int),d.2.2.1,(N:Int),(i:Int),row,(row.length:Int),(c:Int),d,b3)/\((b3=b/\¬Z (c+1))\/(b3=b.set i true/\Z (c+1)))) (λnu a4=>?_) λs⟨b3,L,e1⟩=>?_)
     ·refine wac _ (vn f) (wac _ (atN f) (wab (λQ=>?_) λQ=>?_))
      ·refine wac _ (vn f) (wac _ (yu true f) (a4 _ ⟨_,rfl,.inr ?_⟩));rcases hP with⟨rfl,_⟩|⟨rfl,hp⟩
       ·rw[c2]at Q;cases Q
       ·refine⟨V,?_⟩;rcases hp with hp|⟨A,j,h1,u,D⟩
        ·exact .inl hp
        ·exact .inr ⟨A,j,U,u,D⟩
      ·have e6:t=b/\¬Z c:=by
        rcases hP with h|⟨rfl,_⟩
        ·omega
        ·simp at Q
       obtain⟨rfl,y⟩:=e6;refine Tt.b1 (wab (λc5=>?_) λc5=>?_)
       ·have c5:=wci c5;obtain⟨z,hz⟩:∃z:Nat,row[c]=(z:Int):=⟨(row[c]).toNat,U⟩
        have O:z<t.length:=U;rw[hz];refine wac _ (vn O) (wac _ (atN O) (wac _ (vn f) (wac _ (yu _ f) (a4 _ ⟨_,rfl,?_⟩))));cases e:t[z]with
        |true=>exact .inr ⟨rfl,.inr ⟨c,z,U,by rw[a3,hz],by unfold onB;rw[wch O,e]⟩⟩
        |false=>
         refine .inl ⟨zi3 p c2,λh=>?_⟩;rcases h with h|⟨A,j,h1,u,D⟩
         ·exact y (.inl h)
         ·by_cases e2:A=c
          ·subst e2;rw[a3,hz]at u;have:z=j:=U;subst this;unfold onB at D;rw[wch O,e]at D;cases D
          ·exact y (.inr ⟨A,j,U,u,D⟩)
       ·have c5:=wcj c5;refine wac _ (vn f) (wac _ (yu false f) (a4 _ ⟨_,rfl,.inl ⟨zi3 p c2,λh=>?_⟩⟩));rcases h with h|⟨A,j,h1,u,D⟩
        ·exact y (.inl h)
        ·by_cases e2:A=c
         ·subst e2;rw[a3]at u;omega
         ·exact y (.inr ⟨A,j,U,u,D⟩)
     ·subst L;dsimp only;refine Tt.b1 ?_;rw[wI U U];exact f3 (row.length-(c+1)) _ (by rw[e8];exact Nat.sub_lt_sub_left G (wew c)) ⟨c+1,b3,G,rfl,rfl,e1⟩
    ·have c3:=wcj c3;have ec:c=row.length:=Nat.le_antisymm hc (Int.ofNat_le.1 (Int.not_lt.1 c3));subst ec
     -- behind the row
     have v:(t=b/\¬Z row.length)\/(t=b.set i true/\Z row.length):=hP;have R:LeB b t:=by rcases v with⟨rfl,_⟩|⟨rfl,_⟩<;>first|exact LeB.refl _|exact LeB.set p
     have b7:∀k,onB t k->Rch (aE d) (bS d lb) k:=λk hk=>by
      rcases v with⟨rfl,_⟩|⟨rfl,hp⟩
      ·exact F k hk
      ·rcases(yp p).1 hk with h|h
       ·subst h;rcases hp with h|⟨A,j,h1,u,D⟩
        ·exact .base ⟨H,h⟩
        ·exact .step (F j D) ⟨H,A,U,by show(A:Int)<d.2.1;omega,u⟩
       ·exact F k h
     have b8:∀g,(g=true↔o=true\/onB t i)->∃(B:Bool)(C:W8),(lb,g,d.2.2.1,(N:Int),(i:Int),d,t)=(lb,B,d.2.2.1,(N:Int),(i:Int),d,C)/\C.length=N/\LeB b C/\(∀i,onB C i->Rch (aE d) (bS d lb) i)/\(B=true->offs C<offs a)/\(B=false->a=C/\(Jw d i=lb->onB a i)/\∀j,onB a j->dE d i j->onB a i)/\(B=false->o=false):=λg h=>by
      have g6:offs t<=offs b:=by
       rcases R.offs with e|e
       ·rw[e];exact wcs _
       ·omega
      refine⟨g,t,rfl,e5,R,b7,λe=>?_,λe=>?_,λe=>?_⟩
      ·rcases h.1 e with e|e
       ·have:=a2 e;omega
       ·rcases v with⟨rfl,_⟩|⟨rfl,_⟩
        ·unfold onB at e;rw[Y]at e;cases e
        ·have h1:=zla Y;rcases c9.offs with e2|e2
         ·rw[<- e2]at h1⊢;omega
         ·omega
      ·have f1:o=false:=by cases hh:o with
        |false=>rfl
        |true=>rw[h.2 (.inl hh)]at e;cases e
       have f2:¬onB t i:=λhh=>by rw[h.2 (.inr hh)]at e;cases e
       rcases v with⟨rfl,y⟩|⟨rfl,_⟩
       ·have M:=(x f1).1;refine⟨M,λh=>absurd (.inl h) y,λj hj hE=>?_⟩;obtain⟨_,A,h0,u,D⟩:=hE;obtain⟨q,rfl⟩:=wdu h0;have u:(q:Int)<d.2.1:=u;exact absurd (.inr ⟨q,j,U,D,M▸hj⟩) y
       ·exact absurd ((yp p).2 (.inl rfl)) f2
      ·cases hh:o with
       |false=>rfl
       |true=>rw[h.2 (.inl hh)]at e;cases e
     refine(Tt.J (λs=>∃g,s=(lb,g,d.2.2.1,(N:Int),(i:Int),d,t)/\(g=true↔o=true\/onB t i)) (λnv d3=>?_) λs⟨g,L,d1⟩=>?_)
     ·refine wab (λQ=>d3 _ ⟨true,rfl,⟨λ_=> .inl Q,λ_=>rfl⟩⟩) λQ=>?_;refine wac _ (vn f) (wac _ (atN f) (d3 _ ⟨_,rfl,?_⟩));rw[Q];unfold onB;rw[wch f];simp
     ·subst L;dsimp only;exact(d4 _ (b8 g d1)).fst
  ·subst L;dsimp only;refine Tt.b1 ?_;rw[wI U U];refine f5 (N-(i+1)) _ U ⟨i+1,g,b1,U,rfl,rfl,e4,c9.trans d0,b6,d2,λe=>⟨(S e).1,λP g2=>?_⟩⟩;by_cases h:P=i
   ·subst h;exact(S e).2
   ·have M:=(x (f0 e)).2 P U;exact M
 ·have c1:=wcj c1;refine(f4 (2*offs b+(if o=true then 1 else 0)) _ ?_ ⟨o,b,rfl,rfl,hb,F,λe=>?_⟩).fst
  ·rw[e9];cases o with
   |true=>
    have u:=a2 rfl;show 2*offs b+1<2*offs a+1;exact Nat.succ_lt_succ (Nat.mul_lt_mul_of_pos_left u Wah)
   |false=>
    have u:=(x rfl).1;rw[<- u];exact wew _
  ·obtain⟨rfl,v⟩:=x e;exact z7i hb b4 (λi hi=>(v i (by have:=hi.1;omega)).1 hi.2) λj i hj hE=>(v i (by have:=hE.1;omega)).2 j hj hE
inductive RchP{α:Type}(E:α->α->Prop)(S:α->Prop):α->Prop
 |base {i:α}:S i->RchP E S i
 |step {i j:α}:RchP E S i->E i j->RchP E S j
def E37c(d:je)(L:W8)(lb:Int)(c:Nat)(p q:Nat×Nat):Prop:=
 (c:Int)<d.2.1/\nxt d p.1 c=(q.1:Int)/\(p.2=d.2.2.1.length/\q.2=d.2.2.1.length\/p.2<d.2.2.1.length/\∃z:Nat,nxt d p.2 c=(z:Int)/\onB L z/\(q.2=z\/q.2=d.2.2.1.length/\Jw d z=lb))
def V37(d:je)(p:Nat×Nat):Prop:=p.1<d.2.2.1.length/\p.2<=d.2.2.1.length
def S37(d:je)(la:Int)(p:Nat×Nat):Prop:=p.1<d.2.2.1.length/\Jw d p.1=la/\p.2=0
abbrev E37(d:je)(L:List Bool)(lb:Int):Nat×Nat->Nat×Nat->Prop:=λp q=>∃c,E37c d L lb c p q
abbrev R37(d:je)(L:List Bool)(la lb:Int):Nat×Nat->Prop:=RchP (E37 d L lb) (S37 d la)
def G37(d:je)(L:W8)(la lb:Int)(q:Nat×Nat):Prop:=∃p,R37 d L la lb p/\E37 d L lb p q
def E37c.val{d:je}{L:W8}{lb:Int}{c:Nat}{p q:Nat×Nat}(hm:MOk d)(e:V37 d p)(h:E37c d L lb c p q):V37 d q:=by
 obtain⟨a,i,b⟩:=h;have m:=hm.nx p.1 c U (by have:=e.1;omega) U a;have f:nxt d p.1 c=at' (at' d.2.2.1 (p.1:Int)) (c:Int):=rfl;refine⟨U,?_⟩;rcases b with b|⟨j,z,k,_,l⟩
 {omega};.have n:=hm.nx p.2 c U U U a;have g:nxt d p.2 c=at' (at' d.2.2.1 (p.2:Int)) (c:Int):=rfl;omega
def R37.val{d:je}{L:W8}{la lb:Int}(hm:MOk d){p:Nat×Nat}(h:R37 d L la lb p):V37 d p:=by induction h with|base h=>{exact⟨h.1,by have:=h.2.2;omega⟩}|step _ h a=>obtain⟨c,h⟩:=h;exact h.val hm a
def Q6(N:Nat)(p:Nat×Nat):Arr 2 Int:=⟨[(p.1:Int),if p.2=N then -1 else(p.2:Int)],rfl⟩
def jvq{N:Nat}{p q:Nat×Nat}:zan (Q6 N p) (Q6 N q)=decide (p=q):=by obtain⟨a,b⟩:=p;obtain⟨x,y⟩:=q;show(([(a:Int),if b=N then -1 else(b:Int)]:W7) == [(x:Int),if y=N then -1 else(y:Int)])=_;grind
def zew(N:Nat)(sp:List (Nat×Nat)):List ((Arr 2 Int)×Bool×Unit):=sp.map λp=>(Q6 N p,true,())
def z9w{N:Nat}{q:Nat×Nat}:∀{sp:Wam (Nat×Nat)},zl zan (zew N sp) (Q6 N q)=if q∈sp then some true else none
 |[]=>rfl
 |p::sp=>by
  show(match zan (Q6 N q) (Q6 N p)with
   |true=>some true
   |false=>zl zan (zew N sp) (Q6 N q))=_
  rw[jvq,z9w];grind
section
variable{ι β:Type}{D:Fi ι}{Q:β → Prop}
def z9i{N:Nat}{sp wp:Wam (Nat×Nat)}{q:Nat×Nat}{k:Arr 2 Int}{F:ι->Wam ((Arr 2 Int)×Bool×Unit)->Wam (Arr 2 Int)->Wal β}(g:k=Q6 N q)(j:wp.length<=1000000)(h:∀b,(q∈sp/\b=[]\/q∉sp/\b=[q])->Tt D (λi=>F i (zew N (sp++b)) ((wp++b).map (Q6 N))) Q):
  Tt D (λi=>ja (some (zl zan (zew N sp) k)) λd=>ifB (!(gD false d)) (ja (some (Yv zan (zew N sp) k true)) λe=>ja (apO 16 (wp.map (Q6 N)) [k]) λf=>F i e f) (F i (zew N sp) (wp.map (Q6 N)))) Q:=by
 subst g;refine Tt.b1 ?_;have a:=z9w (N:=N) (q:=q) (sp:=sp);by_cases c:q∈sp
 ·rw[if_pos c]at a;rw[a];have:=h [] (.inl ⟨c,rfl⟩);rw[wc2,wc2]at this
  assumption
 ·rw[if_neg c]at a;rw[a];refine wah rfl (Tt.b1 ?_);rw[zjs a];refine wac _ (yi X U) ?_;have:=h [q] (.inr ⟨c,rfl⟩);unfold zew at this⊢
  grind
end
structure St37(d:je)(L:List Bool)(la lb:Int)(dp wp:List (Nat×Nat))(bad:Bool):Prop where
 nd:(dp++wp).Nodup
 rch:∀p∈dp++wp,R37 d L la lb p
 st:∀p,S37 d la p->p∈dp++wp
 cl:∀p∈dp,∀q,E37 d L lb p q->q∈dp++wp
 bd:bad=true↔∃p∈dp,∃q,E37 d L lb p q/\0<=Jw d q.1
def jsm(N:Nat):List (Nat×Nat):=(range N).flatMap λi=>(range (N+1)).map λk=>(i,k)
def jqw{N:Nat}{p:Nat×Nat}:p∈jsm N↔p.1<N/\p.2<=N:=by unfold jsm;grind
def jre{α:Type}{N:Nat}(f:Nat->Nat->α):∀l:Wam Nat,(l.flatMap λi=>(range N).map λk=>f i k).length=l.length*N
 |[]=>V
 |i::l=>by rw[wdk,wc0,jre f l];grind
def jpm(N:Nat):(jsm N).length=N*(N+1):=by unfold jsm;rw[jre];simp
def z6u{α:Type}[DecidableEq α]:∀{l m:Wam α},l.Nodup->(∀x∈l,x∈m)->l.length<=m.length
 |[],m,_,_=>wdx _
 |x::l,m,h,a=>by rw[wff]at h;have c:=a x V;have b:=z6u h.2 λy d=>(List.mem_erase_of_ne (show y≠x from λe=>h.1 X)).2 (a y X);grind
def z1a{N:Nat}{l:Wam (Nat×Nat)}(h:l.Nodup)(a:∀p∈l,p.1<N/\p.2<=N):l.length<=N*(N+1):=by rw[<- jpm];exact z6u h λp b=>jqw.2 (a p b)
def St37.len{d:je}{L:W8}{la lb:Int}{b wp:Wam (Nat×Nat)}{a:Bool}(hm:MOk d)(h:St37 d L la lb b wp a):(b++wp).length<=d.2.2.1.length*(d.2.2.1.length+1):=z1a h.nd λp c=>(h.rch p c).val hm
def zxo{α:Type}{l:Wam α}{q:α}(h:l.Nodup)(a:q∉l):(l++[q]).Nodup:=by grind
def jws{d:je}(F:DSz d)(hm:MOk d)(L:W8)(la lb:Int)(B:Wa)(C:Int)(D:W4):
  Tn (λy=>Ve y (la,d.2.2.2.1,B,C,D,d.1,d.2.1,d.2.2.1,lb,false,L,[],[])) (λr=>∃sp,St37 d L la lb [] sp false/\r=(d.2.2.2.1,d.1,d.2.1,d.2.2.1,lb,false,L,zew d.2.2.1.length sp,sp.map (Q6 d.2.2.1.length))):=by
 have R:=hm.n0;have M:=F.n;have k:=hm.lab;generalize P:d.2.2.1.length=N at *;show Tn (λy=>jm _ y _) _;refine Tt.loop (λm s=>∃(i:Nat)(sp:Wam (Nat×Nat)),i<=N/\m=N-i/\s=(la,(N:Int),(i:Int),d.2.2.2.1,d.1,d.2.1,d.2.2.1,lb,false,L,zew N sp,sp.map (Q6 N))/\sp.Nodup/\∀p,p∈sp↔p.1<i/\Jw d p.1=la/\p.2=0) N waa ⟨0,[],U,Wab,by rw[k];rfl,List.nodup_nil,λp=>V⟩ λm s⟨i,sp,Q,I,o,f,t⟩ S x=>?_;subst o;dsimp only;refine wab (λc=>?_) λc=>Tt.pure ⟨sp,⟨f,λp g=> .base ?_,λp g=>?_,λp g=>X,⟨λh=>(by cases h),λ⟨p,g,_⟩=>by cases g⟩⟩,rfl⟩
 ·have c:=wci c;have H:i<N:=U;have b:i<d.2.2.2.1.length:=U;have z:Jw d i=d.2.2.2.1[i]:=yf b;have A:sp.length<=N*(N+1):=z1a f λp g=>X;have e:sp.length<=1000000:=by
   have:N*(N+1)<=300*301:=Nat.mul_le_mul M U;omega
  refine Tt.J (λs=>∃a,s=(la,(N:Int),(i:Int),d.2.2.2.1,d.1,d.2.1,d.2.2.1,lb,false,L,zew N a,a.map (Q6 N))/\a.Nodup/\∀p,p∈a↔p.1<i+1/\Jw d p.1=la/\p.2=0) (λT l=>?_) λs⟨a,o,u,v⟩=>?_
  ·refine wac _ (vn b) (wac _ (atN b) (wab (λj=>?_) λj=>?_))
   ·have j:=wci j;refine Tt.J (λs=>∃a,s=(la,(N:Int),(i:Int),d.2.2.2.1,d.1,d.2.1,d.2.2.1,lb,false,L,zew N a,a.map (Q6 N))/\a.Nodup/\∀p,p∈a↔p.1<i+1/\Jw d p.1=la/\p.2=0) (λnv w=>?_) λs o=>?_
    ·refine z9i (q:=(i,0)) (by unfold Q6;grind) e λO G=>w _ ?_
     grind
    ·obtain⟨a,rfl,u,v⟩:=o;exact l _ ⟨a,rfl,u,v⟩
   ·have j:=wcj j;refine l _ ⟨sp,rfl,f,λp=>?_⟩
    grind
  ·subst o;dsimp only;refine Tt.b1 ?_;rw[wI U U];exact x (N-(i+1)) _ U ⟨i+1,a,U,rfl,rfl,u,v⟩
 ·have c:=wcj c;have:=(t p).1 X;exact⟨U,this.2⟩
 ·have c:=wcj c;have u:=g.1;simpa using(t p).2 ⟨U,g.2⟩
def jwj{d:je}(hd:DSz d)(hm:MOk d)(L:W8)(hL:L.length=d.2.2.1.length)(la lb:Int){sp:Wam (Nat×Nat)}(g5:St37 d L la lb [] sp false):
  Tn (λnn=>Vi nn (d.2.2.2.1,d.1,d.2.1,d.2.2.1,lb,false,L,zew d.2.2.1.length sp,sp.map (Q6 d.2.2.1.length))) (λr=>∃D x,St37 d L la lb D [] x/\r=(d.2.2.2.1,d.1,d.2.1,d.2.2.1,lb,x,L,zew d.2.2.1.length D,[])):=by
 have n0:0<d.2.2.1.length:=hm.n0;have hn:=hd.n;have k7:0<=d.2.1:=hm.w.1;have k8:d.2.1<=256:=hm.w.2;have f0:d.2.2.2.1.length=d.2.2.1.length:=hm.lab;have hT:d.2.2.1.length*(d.2.2.1.length+1)<=90300:=by
  have:d.2.2.1.length*(d.2.2.1.length+1)<=300*301:=Nat.mul_le_mul hn U;omega
 generalize hN:d.2.2.1.length=N at n0 hn f0 hT hL⊢;have Y:∀{D wp x},St37 d L la lb D wp x->(D++wp).length<=N*(N+1):=λh=>hN▸h.len hm;generalize j4:N*(N+1)=T at hT Y;show Tn (λnn=>jm _ nn _) _;refine Tt.loop (λm s=>∃(D wp:Wam (Nat×Nat))(x:Bool),St37 d L la lb D wp x/\m=2*(T-(D++wp).length)+wp.length/\s=(d.2.2.2.1,d.1,d.2.1,d.2.2.1,lb,x,L,zew N (D++wp),wp.map (Q6 N))) _ waa ⟨[],sp,false,g5,rfl,rfl⟩ λm s⟨D,wp,x,M,d0,H⟩ nx g3=>?_;subst H;dsimp only;have d9:=Y M;refine wab (λc=>?_) λc=>?_
 rotate_left
 ·have c:=wcj c;have:wp=[]:=by simpa using c
  subst this;exact Tt.pure ⟨D,x,M,V⟩
 have c:=wci c
 match wp,M,d0,d9,c with
 |[],_,_,_,c=>simp at c
 |p::o,M,d0,d9,c=>
  have d1:=(M.rch p V).val hm;have k0:p.1<N:=hN▸d1.1;have k6:p.2<=N:=hN▸d1.2;have i0:jq ((p::o).map (Q6 N)).length 0=some 0:=vn (k:=0) V;have a0:atL ((p::o).map (Q6 N)) 0=some (Q6 N p):=rfl;have o1:zqg ((p::o).map (Q6 N)) 1=some 1:=by
   unfold zqg;simp;rw[wdf (show(1:Int)<=(o.length:Int)+1 by omega)]
  refine wac _ i0 (wac _ a0 (wac _ o1 ?_));have g0:((p::o).map (Q6 N)).drop 1=o.map (Q6 N):=rfl;rw[g0];have R:D++p::o=D++[p]++o:=V;generalize hA:D++p::o=A at R;obtain⟨W,hW⟩:∃W:Nat,d.2.1=(W:Int):=⟨d.2.1.toNat,U⟩
  have j5:W<=256:=U;refine Tt.loop (λm s=>∃(c:Nat)(g:Wam (Nat×Nat))(b1:Bool),c<=W/\m=W-c/\s=(d.2.1,(c:Int),d.1,d.2.1,d.2.2.1,lb,b1,d.2.2.2.1,L,zew N (A++g),Q6 N p,(o++g).map (Q6 N))/\(A++g).Nodup/\(∀q∈g,E37 d L lb p q)/\(∀C:Nat,C<c->∀q,E37c d L lb C p q->q∈A++g)/\(b1=true↔x=true\/∃C:Nat,C<c/\∃q,E37c d L lb C p q/\0<=Jw d q.1)) W waa.fst ⟨0,[],x,U,U,by rw[wc2,wc2];rfl,by rw[wc2,<- hA];exact M.nd,λq f=>(by cases f),λC h=>U,⟨.inl,λh=>by
    rcases h with h|⟨C,h,_⟩
    ·exact h
    ·omega⟩⟩ λm s⟨c,g,b1,hc,j9,H,Q,b0,e4,e3⟩ ny g4=>?_
  subst H;dsimp only;refine wab (λc1=>?_) λc1=>?_
  rotate_left
  ·-- behind the row
   have c1:=wcj c1;obtain rfl:c=W:=U;have d8:St37 d L la lb (D++[p]) (o++g) b1:=by
    have e:D++[p]++(o++g)=A++g:=by rw[R];simp only[wc4]
    refine⟨by rw[e];exact Q,λq f=>?_,λq f=>?_,λq f r hr=>?_,?_⟩
    ·rw[e,wcu]at f;rcases f with f|f
     ·exact M.rch q (by rw[hA];exact f)
     ·exact .step (M.rch p V) (b0 q f)
    ·rw[e,wcu];exact .inl (hA▸M.st q f)
    ·rw[e];rw[wcu]at f;rcases f with f|f
     ·exact wel _ (hA▸M.cl q f r hr)
     ·simp at f;subst f;obtain⟨C,c9⟩:=hr;exact e4 C (by have:=c9.1;omega) r c9
    ·rw[e3,M.bd];constructor
     ·rintro(⟨q,j,u⟩|⟨C,_,q,j,u⟩)
      ·exact⟨q,wel _ j,u⟩
      ·exact⟨p,V,q,⟨C,j⟩,u⟩
     ·rintro⟨q,j,r,⟨C,u⟩,F⟩;rw[wcu]at j;rcases j with j|j
      ·exact .inl ⟨q,j,r,⟨C,u⟩,F⟩
      ·simp at j;subst j;exact .inr ⟨C,by have:=u.1;omega,r,u,F⟩
   have e8:=Y d8;have e1:(D++[p]++(o++g)).length=(D++p::o).length+g.length:=Wag;have e2:(D++[p]++(o++g))=A++g:=by rw[R];simp only[wc4]
   refine(g3 (2*(T-(D++[p]++(o++g)).length)+(o++g).length) _ ?_ ⟨D++[p],o++g,b1,d8,rfl,by rw[e2]⟩).fst;rw[d0,e1];rw[e1]at e8;simp only[wc0,wd3]at e8⊢;omega
  -- a class
  have c1:=wci c1;have j6:c<W:=U;have a6:∀(i:Nat)(hi:i<d.2.2.1.length),((d.2.2.1[i]).length:Int)=d.2.1:=λi hi=>by
   have:=hm.row i U U;rwa [yf (l:=d.2.2.1) hi]at this
  have b9:∀(i:Nat)(hi:i<d.2.2.1.length)(e5:c<(d.2.2.1[i]).length),nxt d i c=(d.2.2.1[i])[c] /\ -1<=(d.2.2.1[i])[c]/\(d.2.2.1[i])[c]<N:=λi hi e5=>by
   have j:=zh2 hi e5;have : -1<=nxt d i (c:Int)/\nxt d i (c:Int)<d.2.2.1.length:=hm.nx i c U U U U;rw[j]at this;exact⟨j,U,U⟩
  have a3:p.1<d.2.2.1.length:=d1.1;have f2:c<(d.2.2.1[p.1]).length:=by have:=a6 p.1 a3;omega
  obtain⟨b4,g6,g7⟩:=b9 p.1 a3 f2
  -- how a class is left
  have e9:(A++g).length<=1000000/\(o++g).length<=1000000:=by
   have j:=z1a (N:=N) Q λq f=>by
    rw[wcu]at f;have hv:V37 d q:=by
     rcases f with f|f
     ·exact(M.rch q (by rw[hA];exact f)).val hm
     ·exact R37.val hm (.step (M.rch p V) (b0 q f))
    exact⟨by have:=hv.1;omega,by have:=hv.2;omega⟩
   have u:(o++g).length<=(A++g).length:=by rw[R];simp only[wc0,wd3,wfe];omega
   omega
  refine Tt.J (λs=>∃(b:Wam (Nat×Nat))(G:Bool),s=(d.2.1,(c:Int),d.1,d.2.1,d.2.2.1,lb,G,d.2.2.2.1,L,zew N (A++(g++b)),Q6 N p,(o++(g++b)).map (Q6 N))/\∃S:Wam (Nat×Nat),(∀q,E37c d L lb c p q↔q∈S)/\(A++(g++b)).Nodup/\(∀q∈b,q∈S)/\(∀q∈S,q∈A++(g++b))/\(G=true↔b1=true\/∃q∈S,0<=Jw d q.1)) (λnu a1=>?_) λs⟨b,G,H,S,k1,k2,k3,k4,k5⟩=>?_
  rotate_left
  ·subst H;dsimp only;refine Tt.b1 ?_;rw[wI U U];refine g4 (W-(c+1)) _ U ⟨c+1,g++b,G,U,rfl,rfl,k2,λq f=>?_,λC c9 q f=>?_,?_⟩
   ·rw[wcu]at f;rcases f with f|f
    ·exact b0 q f
    ·exact⟨c,(k1 q).2 (k3 q f)⟩
   ·by_cases e:C=c
    ·subst e;exact k4 q ((k1 q).1 f)
    ·have:=e4 C U q f;rw[<- wc4];exact wel _ this
   ·rw[k5,e3];constructor
    ·rintro((h|⟨C,j,u⟩)|⟨q,j,u⟩)
     ·exact .inl h
     ·exact .inr ⟨C,U,u⟩
     ·exact .inr ⟨c,U,q,(k1 q).2 j,u⟩
    ·rintro(h|⟨C,j,q,u,F⟩)
     ·exact .inl (.inl h)
     ·by_cases e:C=c
      ·subst e;exact .inr ⟨q,(k1 q).1 u,F⟩
      ·exact .inl (.inr ⟨C,U,q,u,F⟩)
  have none:(∀q,¬E37c d L lb c p q)->∃(b:Wam (Nat×Nat))(G:Bool),(d.2.1,(c:Int),d.1,d.2.1,d.2.2.1,lb,b1,d.2.2.2.1,L,zew N (A++g),Q6 N p,(o++g).map (Q6 N))=(d.2.1,(c:Int),d.1,d.2.1,d.2.2.1,lb,G,d.2.2.2.1,L,zew N (A++(g++b)),Q6 N p,(o++(g++b)).map (Q6 N))/\∃S:Wam (Nat×Nat),(∀q,E37c d L lb c p q↔q∈S)/\(A++(g++b)).Nodup/\(∀q∈b,q∈S)/\(∀q∈S,q∈A++(g++b))/\(G=true↔b1=true\/∃q∈S,0<=Jw d q.1):=λh=>
   ⟨[],b1,by rw[wc2],[],λq=>⟨λf=>absurd f (h q),λf=>by cases f⟩,by rw[wc2];exact Q,λq f=>(by cases f),λq f=>(by cases f),⟨.inl,λh=>by
    rcases h with h|⟨q,f,_⟩
    ·exact h
    ·cases f⟩⟩
  have g1:atL (Q6 N p).l 0=some (p.1:Int):=rfl;have e7:atL (Q6 N p).l 1=some (if p.2=N then(-1:Int)else(p.2:Int)):=rfl;have j0:jq 2 0=some 0:=rfl;have j1:jq 2 1=some 1:=rfl;refine wac _ j0 (wac _ g1 (wac _ (atN a3) (wac _ (atN f2) (wab (λc2=>?_) λc2=>?_))))
  ·have c2:=wci c2;exact a1 _ (none λq f=>by have:=f.2.1;omega)
  have c2:=wcj c2;obtain⟨z,hz⟩:∃z:Nat,(d.2.2.1[p.1])[c]=(z:Int):=⟨((d.2.2.1[p.1])[c]).toNat,U⟩
  rw[hz];rw[hz]at b4 g6 g7 c2;have l1:z<N:=U;have P:z<d.2.2.2.1.length:=U;have Z:Jw d z=d.2.2.2.1[z]:=yf P;refine wac _ j1 (wac _ e7 (wab (λc3=>?_) λc3=>?_))
  ·-- done
   have a5:p.2=N:=by
    have c3:=wci c3;split at c3
    ·assumption
    ·omega
   have hS:∀q,E37c d L lb c p q↔q∈[(z,N)]:=λq=>by
    rw[wcr];constructor
    ·rintro⟨_,u,F⟩;rw[hN]at F;have e1:q.1=z:=U;rcases F with⟨_,F⟩|⟨F,_⟩
     ·exact Prod.ext e1 F
     ·omega
    ·rintro rfl;exact⟨U,b4,.inl ⟨by rw[hN];exact a5,by rw[hN]⟩⟩
   refine Tt.J (λs=>∃G,s=(d.1,d.2.1,d.2.2.1,lb,G,d.2.2.2.1,L,zew N (A++g),(⟨[(z:Int),(-1)],rfl⟩:Arr 2 Int),(o++g).map (Q6 N))/\(G=true↔b1=true\/0<=Jw d z)) (λnv B=>?_) λs⟨G,H,a9⟩=>?_
   ·refine wac _ (vn P) (wac _ (atN P) (wab (λI=>?_) λI=>?_))
    ·exact B _ ⟨true,rfl,⟨λ_=> .inr (by rw[Z];exact wci I),λ_=>rfl⟩⟩
    ·exact B _ ⟨b1,rfl,⟨.inl,λh=>by
      rcases h with h|h
      ·exact h
      ·rw[Z]at h;exact absurd h (wcj I)⟩⟩
   ·subst H;dsimp only;refine Tt.J (λs=>∃b,s=(d.1,d.2.1,d.2.2.1,lb,G,d.2.2.2.1,L,zew N (A++g++b),(o++g++b).map (Q6 N))/\((z,N)∈A++g/\b=[]\/(z,N)∉A++g/\b=[(z,N)])) (λnw a2=>?_) λs⟨b,H,j⟩=>?_
    ·exact z9i (N:=N) (sp:=A++g) (wp:=o++g) (q:=(z,N)) (by unfold Q6;simp) e9.2 λb j=>a2 _ ⟨b,rfl,j⟩
    ·subst H;dsimp only;refine a1 _ ⟨b,G,by rw[wc4,wc4],_,hS,?_,?_,?_,?_⟩
     ·rw[<- wc4];rcases j with⟨_,rfl⟩|⟨j,rfl⟩
      ·rwa [wc2]
      ·exact zxo Q j
     ·rcases j with⟨_,rfl⟩|⟨_,rfl⟩
      ·intro q f;cases f
      ·exact λq f=>f
     ·intro q f;rw[wcr]at f;subst f;rw[<- wc4];rcases j with⟨j,rfl⟩|⟨_,rfl⟩
      ·rwa [wc2]
      ·simp
     ·rw[a9];constructor
      ·rintro(h|h)
       ·exact .inl h
       ·exact .inr ⟨_,wcr.2 rfl,h⟩
      ·rintro(h|⟨q,f,h⟩)
       ·exact .inl h
       ·rw[wcr]at f;subst f;exact .inr h
  ·-- a place
   have a5:p.2≠N:=λe=>by
    have c3:=wcj c3;rw[if_pos e]at c3;exact c3 rfl
   have a4:p.2<d.2.2.1.length:=U;have f3:c<(d.2.2.1[p.2]).length:=by have:=a6 p.2 a4;omega
   obtain⟨a7,g8,h0⟩:=b9 p.2 a4 f3;refine wac _ j1 (wac _ (by rw[e7,if_neg a5]) (wac _ (atN a4) (wac _ (atN f3) ?_)));generalize j8:(d.2.2.1[p.2])[c]=g9 at a7 g8 h0;refine Tt.J (λs=>∃t,s=((z:Int),g9,d.2.1,(c:Int),t,d.1,d.2.1,d.2.2.1,lb,b1,d.2.2.2.1,L,zew N (A++g),Q6 N p,(o++g).map (Q6 N))/\(t=false↔∃y:Nat,g9=(y:Int)/\onB L y)) (λnv B=>?_) λs⟨t,H,ht⟩=>?_
   ·refine Tt.b1 (wab (λI=>?_) λI=>?_)
    ·have I:=wci I;exact B _ ⟨true,rfl,⟨λh=>(by cases h),λ⟨y,h,_⟩=>U⟩⟩
    ·have I:=wcj I;obtain⟨y,hy⟩:∃y:Nat,g9=(y:Int):=⟨g9.toNat,U⟩
     subst hy;have O:y<L.length:=U;refine wac _ (vn O) (wac _ (atN O) (B _ ⟨_,rfl,?_⟩));constructor
     ·intro h;refine⟨y,rfl,?_⟩;unfold onB;rw[wch O];simpa using h
     ·rintro⟨y2,j,u⟩;have:y=y2:=U;subst this;unfold onB at u;rw[wch O]at u;simpa using u
   subst H;dsimp only;refine wab (λI=>?_) λI=>?_
   ·refine a1 _ (none λq f=>?_);obtain⟨_,_,F⟩:=f;rw[hN]at F;rcases F with⟨F,_⟩|⟨_,y,h4,h5,_⟩
    ·exact a5 F
    ·rw[a7]at h4;rw[ht.2 ⟨y,h4,h5⟩]at I;cases I
   obtain⟨y,rfl,O⟩:=ht.1 I;have l0:y<N:=U;have d2:y<d.2.2.2.1.length:=U;have f1:Jw d y=d.2.2.2.1[y]:=yf d2;have e0:∀q,E37c d L lb c p q↔q=(z,y)\/q=(z,N)/\Jw d y=lb:=λq=>by
    constructor
    ·rintro⟨_,u,F⟩;rw[hN]at F;have e1:q.1=z:=U;rcases F with⟨F,_⟩|⟨_,y2,h4,h5,h6⟩
     ·exact absurd F a5
     ·rw[a7]at h4;have:y=y2:=U;subst this;rcases h6 with h6|⟨h6,h7⟩
      ·exact .inl (Prod.ext e1 h6)
      ·exact .inr ⟨Prod.ext e1 h6,h7⟩
    ·rintro(rfl|⟨rfl,h7⟩)
     ·exact⟨U,b4,.inr ⟨U,y,a7,O,.inl rfl⟩⟩
     ·exact⟨U,b4,.inr ⟨U,y,a7,O,.inr ⟨by rw[hN],h7⟩⟩⟩
   refine Tt.J (λs=>∃G,s=(d.1,d.2.1,d.2.2.1,lb,G,d.2.2.2.1,L,zew N (A++g),(⟨[(z:Int),(y:Int)],rfl⟩:Arr 2 Int),(o++g).map (Q6 N))/\(G=true↔b1=true\/0<=Jw d z)) (λnv B=>?_) λs⟨G,H,a9⟩=>?_
   ·refine wac _ (vn P) (wac _ (atN P) (wab (λI=>?_) λI=>?_))
    ·exact B _ ⟨true,rfl,⟨λ_=> .inr (by rw[Z];exact wci I),λ_=>rfl⟩⟩
    ·exact B _ ⟨b1,rfl,⟨.inl,λh=>by
      rcases h with h|h
      ·exact h
      ·rw[Z]at h;exact absurd h (wcj I)⟩⟩
   subst H;dsimp only;refine Tt.J (λs=>∃b,s=(d.1,d.2.1,d.2.2.1,lb,G,d.2.2.2.1,L,zew N (A++g++b),(o++g++b).map (Q6 N))/\((z,y)∈A++g/\b=[]\/(z,y)∉A++g/\b=[(z,y)])) (λnw a2=>?_) λs⟨b,H,j⟩=>?_
   ·exact z9i (N:=N) (sp:=A++g) (wp:=o++g) (q:=(z,y)) (by unfold Q6;simp only[show ¬y=N by omega,if_false]) e9.2 λb j=>a2 _ ⟨b,rfl,j⟩
   subst H;dsimp only;have b8:(A++(g++b)).Nodup:=by
    rw[<- wc4];rcases j with⟨_,rfl⟩|⟨j,rfl⟩
    ·rwa [wc2]
    ·exact zxo Q j
   have b7:(z,y)∈A++(g++b):=by
    rw[<- wc4];rcases j with⟨j,rfl⟩|⟨_,rfl⟩
    ·rwa [wc2]
    ·simp
   have b6:∀q∈b,q=(z,y):=by
    rcases j with⟨_,rfl⟩|⟨_,rfl⟩
    ·intro q f;cases f
    ·intro q f;simpa using f
   rw[wc4,wc4];refine wac _ (vn d2) (wac _ (atN d2) (wab (λc5=>?_) λc5=>?_))
   ·have c5:=f1.trans (wci c5);refine Tt.J (λs=>∃b3,s=(d.1,d.2.1,d.2.2.1,lb,b3,d.2.2.2.1,L,zew N (A++(g++b)),(⟨[(z:Int),(-1)],rfl⟩:Arr 2 Int),(o++(g++b)).map (Q6 N))/\(b3=true↔b1=true\/0<=Jw d z)) (λnv B=>?_) λs⟨b3,H,f9⟩=>?_
    ·refine wac _ (vn P) (wac _ (atN P) (wab (λc6=>?_) λc6=>?_))
     ·exact B _ ⟨true,rfl,⟨λ_=> .inr (by rw[Z];exact wci c6),λ_=>rfl⟩⟩
     ·exact B _ ⟨G,rfl,a9⟩
    subst H;dsimp only;have g2:(o++(g++b)).length<=1000000:=by
     have h5:b.length<=1:=by rcases j with⟨_,rfl⟩|⟨_,rfl⟩<;>simp
     have h6:=z1a (N:=N) Q λq f=>by
      rw[wcu]at f;have hv:V37 d q:=by
       rcases f with f|f
       ·exact(M.rch q (by rw[hA];exact f)).val hm
       ·exact R37.val hm (.step (M.rch p V) (b0 q f))
      exact⟨by have:=hv.1;omega,by have:=hv.2;omega⟩
     have h7:(o++g).length<=(A++g).length:=by rw[R];simp only[wc0,wd3,wfe];omega
     simp only[wc0]at h6 h7⊢;omega
    refine Tt.J (λs=>∃v,s=(d.1,d.2.1,d.2.2.1,lb,b3,d.2.2.2.1,L,zew N (A++(g++b)++v),(o++(g++b)++v).map (Q6 N))/\((z,N)∈A++(g++b)/\v=[]\/(z,N)∉A++(g++b)/\v=[(z,N)])) (λnw a2=>?_) λs⟨v,H,u⟩=>?_
    ·exact z9i (N:=N) (sp:=A++(g++b)) (wp:=o++(g++b)) (q:=(z,N)) (by unfold Q6;simp) g2 λv u=>a2 _ ⟨v,rfl,u⟩
    subst H;dsimp only;refine a1 _ ⟨b++v,b3,by simp only[wc4],[(z,y),(z,N)],λq=>?_,?_,?_,?_,?_⟩
    ·rw[e0];simp[c5]
    ·have e:A++(g++(b++v))=A++(g++b)++v:=by simp only[wc4]
     rw[e];rcases u with⟨_,rfl⟩|⟨u,rfl⟩
     ·rwa [wc2]
     ·exact zxo b8 u
    ·intro q f;rw[wcu]at f;rcases f with f|f
     ·rw[b6 q f];simp
     ·rcases u with⟨_,rfl⟩|⟨_,rfl⟩
      ·cases f
      ·simp at f;subst f;simp
    ·intro q f;have e:A++(g++(b++v))=A++(g++b)++v:=by simp only[wc4]
     rw[e];simp only[wda,List.not_mem_nil,or_false]at f;rcases f with rfl|rfl
     ·exact wel _ b7
     ·rcases u with⟨u,rfl⟩|⟨_,rfl⟩
      ·rwa [wc2]
      ·simp
    ·rw[f9];constructor
     ·rintro(h|h)
      ·exact .inl h
      ·exact .inr ⟨(z,y),V,h⟩
     ·rintro(h|⟨q,f,h⟩)
      ·exact .inl h
      ·simp only[wda,List.not_mem_nil,or_false]at f;rcases f with rfl|rfl<;>exact .inr h
   ·have c5:¬Jw d y=lb:=λe=>wcj c5 (f1.symm.trans e);refine a1 _ ⟨b,G,rfl,[(z,y)],λq=>?_,b8,λq f=>?_,λq f=>?_,?_⟩
    ·rw[e0];simp[c5]
    ·rw[b6 q f];simp
    ·rw[wcr]at f;subst f;exact b7
    ·rw[a9];constructor
     ·rintro(h|h)
      ·exact .inl h
      ·exact .inr ⟨(z,y),V,h⟩
     ·rintro(h|⟨q,f,h⟩)
      ·exact .inl h
      ·rw[wcr]at f;subst f;exact .inr h
def onM(m:W5)(p:Nat×Nat):Prop:=∃r,m[p.1]?=some r/\onB r p.2
structure MSz(N:Nat)(m:List (List Bool)):Prop where
 len:m.length=N
 row:∀(i:Nat)(r:List Bool),m[i]?=some r->r.length=N+1
def zvl(m:W5):Nat:=(m.map offs).sum
def MSz.at{N:Nat}{m:W5}(h:MSz N m){i:Nat}(hi:i<N):∃r,m[i]?=some r/\r.length=N+1:=by have a:i<m.length:=by{rw[h.len];omega};exact⟨m[i],wch a,h.row i _ (wch a)⟩
section
variable{N i k:Nat}{m:List (List Bool)}{r:List Bool}
def MSz.set(h:MSz N m)(c:m[i]?=some r)(b:Bool):MSz N (m.set i (r.set k b)):=⟨by rw[wdy];exact h.len,λj s a=>by
 rw[wdh]at a;split at a;{split at a;{cases a;rw[wdy];exact h.row i r c};grind};.exact h.row j s a⟩
def zjc(c:m[i]?=some r)(b:k<r.length){p:Nat×Nat}:onM (m.set i (r.set k true)) p↔p=(i,k)\/onM m p:=by have d:=(wcl.1 c).1;unfold onM;rw[wdh];by_cases e:i=p.1;{rw[if_pos e,if_pos U];subst e;constructor;{rintro⟨s,a,h⟩;cases a;rcases(yp b).1 h with h|h;{grind};grind};.rintro(h|⟨s,a,h⟩);{exact⟨_,rfl,(yp b).2 (.inl (by rw[h]))⟩};.rw[c]at a;cases a;exact⟨_,rfl,(yp b).2 (.inr h)⟩};grind
def zr4(d:m[i]?=some r)(h:onB r k):m.set i (r.set k true)=m:=by have b:r.set k true=r:=by{obtain⟨c,a⟩:=wcl.1 h;rw[<- a];simp};obtain⟨c,a⟩:=wcl.1 d;rw[b,<- a];simp
def zx1:∀{m:W5}{i:Nat},m[i]?=some r->r[k]?=some false->zvl (m.set i (r.set k true))+1=zvl m
 |[],i,h,_=>X
 |s::m,0,h,a=>by simp at h;subst h;have:=zla a;unfold zvl;grind
 |s::m,i+1,h,a=>by simp[List.getElem?_cons_succ]at h;have:=zx1 h a;unfold zvl at this⊢;grind
def rdM(e:m[i]?=some r)(c:k<r.length):atL m (i:Int)=some r/\jq m.length (i:Int)=some (i:Int)/\(ja (atL m (i:Int)) λs=>jq s.length (k:Int))=some (k:Int)/\(ja (atL m (i:Int)) λs=>atL s (k:Int))=some r[k]/\∀b,(ja (atL m (i:Int)) λs=>ja (yj s (k:Int) b) λt=>some (m.set (i:Int).toNat t))=some (m.set i (r.set k b)):=by obtain⟨d,f⟩:=wcl.1 e;have a:atL m (i:Int)=some r:=by{assumption};refine⟨a,vn d,?_,?_,λb=>?_⟩;{rw[a];exact vn c};{rw[a];exact atN c};.rw[a];simp only[ja];rw[yu b c];simp
end
structure FI37(d:je)(L:List Bool)(la lb:Int)(all got:List (List Bool)):Prop where
 a:MSz d.2.2.1.length all
 g:MSz d.2.2.1.length got
 sa:∀p,onM all p->R37 d L la lb p
 sg:∀p,onM got p->G37 d L la lb p
 st:∀p,S37 d la p->onM all p
 le:∀p,onM got p->onM all p
def Cl37(d:je)(L:W8)(lb:Int)(all a:W5):Prop:=∀p q,onM all p->E37 d L lb p q->onM a q
def FI37.all{d:je}{L:W8}{la lb:Int}{all a:W5}(h:FI37 d L la lb all a)(e:Cl37 d L lb all a):(∀p,onM all p↔R37 d L la lb p)/\∀p,onM a p↔G37 d L la lb p:=by have c:∀p,R37 d L la lb p->onM all p:=λp b=>by{induction b with|base b=>{exact h.st _ b}|step _ i j=>exact h.le _ (e _ _ j i)};exact⟨λp=>⟨h.sa p,c p⟩,λq=>⟨h.sg q,λ⟨p,f,g⟩=>e p q (c p f) g⟩⟩
structure RI37(d:je)(L:List Bool)(la lb:Int)(all0 got0:List (List Bool))(P:Nat×Nat->Nat->Prop)(mo:Bool)(all got:List (List Bool)):Prop where
 fi:FI37 d L la lb all got
 dec:mo=true->zvl got<zvl got0
 same:mo=false->all=all0/\got=got0
 pr:mo=false->∀p c q,P p c->onM all0 p->E37c d L lb c p q->onM got0 q
def RI37.mono{d:je}{L:W8}{la lb:Int}{a b all f:W5}{P i:Nat×Nat->Nat->Prop}{g:Bool}(h:RI37 d L la lb a b P g all f)(n:g=false->∀p c q,i p c->onM a p->E37c d L lb c p q->P p c\/onM b q):RI37 d L la lb a b i g all f:=
 ⟨h.fi,h.dec,h.same,λe p c q m j k=>by
  rcases n e p c q m j k with l|l
  ·exact h.pr e p c q l j k
  omega⟩
def RI37.put{d:je}{L:W8}{la lb:Int}{j k all b:W5}{P:Nat×Nat->Nat->Prop}{u:Bool}(h:RI37 d L la lb j k P u all b){z y:Nat}{A c:W8}(n:all[z]?=some A)(l:b[z]?=some c)(x:y<A.length)(i:y<c.length)(C:G37 d L la lb (z,y)){s:Bool}(q:s=true↔u=true\/c[y]=false):
  RI37 d L la lb j k P s (all.set z (A.set y true)) (b.set z (c.set y true)):=by
 have F:R37 d L la lb (z,y):=by
  obtain⟨p,m,t⟩:=C;exact .step m t
 have r:c[y]=true->onB c y:=λe=>by unfold onB;rw[wch i,e]
 have G:zvl (b.set z (c.set y true))<=zvl b:=by
  cases e:c[y]with
  |true=>rw[zr4 l (r e)];exact wcs _
  |false=>have:=zx1 l (show c[y]?=some false by rw[wch i,e]);omega
 have v:s=false->u=false/\all.set z (A.set y true)=all/\b.set z (c.set y true)=b:=λe=>by
  have m:u=false:=by
   cases o:u with
   |false=>rfl
   |true=>rw[q.2 (.inl o)]at e;cases e
  have t:c[y]=true:=by
   cases o:c[y]with
   |true=>rfl
   |false=>rw[q.2 (.inr o)]at e;cases e
  have B:onM all (z,y):=h.fi.le _ ⟨c,l,r t⟩;obtain⟨H,w,D⟩:=B;have w:all[z]?=some H:=w;rw[n]at w;cases w;exact⟨m,zr4 n D,zr4 l (r t)⟩
 refine⟨⟨h.fi.a.set n true,h.fi.g.set l true,λp f=>?_,λp f=>?_,λp f=>(zjc n x).2 (.inr (h.fi.st p f)),λp f=>?_⟩,λe=>?_,λe=>?_,λe=>h.pr (v e).1⟩
 ·rcases(zjc n x).1 f with rfl|f
  ·exact F
  ·exact h.fi.sa p f
 ·rcases(zjc l i).1 f with rfl|f
  ·exact C
  ·exact h.fi.sg p f
 ·rcases(zjc l i).1 f with rfl|f
  ·exact(zjc n x).2 (.inl rfl)
  ·exact(zjc n x).2 (.inr (h.fi.le p f))
 ·rcases q.1 e with e|e
  ·have:=h.dec e;omega
  ·have m:=zx1 l (show c[y]?=some false by rw[wch i,e]);cases o:u with
   |true=>have:=h.dec o;omega
   |false=>rw[(h.same o).2]at m⊢;rw[(h.same o).2]at *;omega
 ·obtain⟨m,t,B⟩:=v e;rw[t,B];exact h.same m
def zor(d:je)(la:Int)(N j:Nat):W8:=(replicate (N+1) false).set 0 (decide (Jw d j=la))
def zvw(d:je)(la:Int)(N i:Nat):W5:=(range i).map (zor d la N)
def z4r{d:je}{la:Int}{N j k:Nat}:onB (zor d la N j) k↔k=0/\Jw d j=la:=by unfold onB zor;grind
def ini_FI{d:je}(L:W8)(la lb:Int):FI37 d L la lb (zvw d la d.2.2.1.length d.2.2.1.length) (replicate d.2.2.1.length (replicate (d.2.2.1.length+1) false)):=by have g:∀i r,(zvw d la d.2.2.1.length d.2.2.1.length)[i]?=some r->i<d.2.2.1.length/\r=zor d la d.2.2.1.length i:=λi r h=>by{unfold zvw at h;obtain⟨b,a⟩:=wcl.1 h;simp at b a;exact⟨b,a.symm⟩};have j:∀p,¬onM (replicate d.2.2.1.length (replicate (d.2.2.1.length+1) false)) p:=λp⟨r,b,a⟩=>by{obtain⟨e,f⟩:=wcl.1 b;simp at f;subst f;exact zmx a};refine⟨⟨by unfold zvw;simp,λi r h=>by rw[(g i r h).2];unfold zor;simp⟩,⟨V,λi r h=>?_⟩,λp⟨r,b,a⟩=>?_,λp c=>absurd c (j p),λp c=>?_,λp c=>absurd c (j p)⟩;{grind};{obtain⟨e,f⟩:=g _ _ b;rw[f,z4r]at a;exact .base ⟨e,a.2,a.1⟩};.obtain⟨b,a,e⟩:=c;exact⟨zor d la d.2.2.1.length p.1,by unfold zvw;grind,z4r.2 ⟨e,a⟩⟩
def P37(i k c:Nat)(p:Nat×Nat)(a:Nat):Prop:=p.1<i\/p.1=i/\(p.2<k\/p.2=k/\a<c)
def zzi{d:je}(la lb:Int)(hd:DSz d)(hm:MOk d):Tn (λnn=>zbb nn d la lb) (λr=>∃all b,r=(all,b,())/\FI37 d (za9 d.2.2.1.length (aE d) (bS d lb)) la lb all b/\Cl37 d (za9 d.2.2.1.length (aE d) (bS d lb)) lb all b):=by
 have n0:0<d.2.2.1.length:=hm.n0;have hn:=hd.n;have m9:0<=d.2.1:=hm.w.1;have n1:d.2.1<=256:=hm.w.2;have e7:d.2.2.2.1.length=d.2.2.1.length:=hm.lab;have e3:=z3d lb hd hm;have e4:(za9 d.2.2.1.length (aE d) (bS d lb)).length=d.2.2.1.length:=zap _ _ _;generalize za9 d.2.2.1.length (aE d) (bS d lb)=L at e3 e4⊢;have b7:=ini_FI (d:=d) L la lb;generalize hN:d.2.2.1.length=N at n0 hn e7 e4 b7;unfold zbb;refine Tt.b1 ?_;rw[hN];refine Tt.loop (λm s=>∃i:Nat,i<=N/\m=N-i/\s=(la,lb,(N:Int),(i:Int),d,zvw d la N i,replicate i (replicate (N+1) false))) N waa ⟨0,U,U,rfl⟩ λm s H nx b3=>?_;obtain⟨i,hi,h7,I⟩:=H;subst I;dsimp only;refine wab (λc=>?_) λc=>?_
 ·-- a row more
  have c:=wci c;have l9:i<N:=U;have e6:i<d.2.2.2.1.length:=U;have e8:Jw d i=d.2.2.2.1[i]:=yf e6;have hw:w64 ((N:Int)+1)=((N+1:Nat):Int):=by rw[wI U U];rfl
  have d2:(zvw d la N i).length=i:=by unfold zvw;simp
  refine Tt.b1 ?_;rw[hw];refine wac _ (mkN U U) (wac _ (yi (by rw[d2];simp;omega) U) (Tt.b1 ?_));rw[hw];refine wac _ (mkN U U) (wac _ (yi Wag U) ?_);have hr:(zvw d la N i++[replicate (N+1) false])[i]?=some (replicate (N+1) false):=by
   rw[wcw U,d2];simp
  obtain⟨q1,q2,q3,_,q5⟩:=rdM (k:=0) hr V;refine wac _ q2 (wac _ q1 (wac _ (atN e6) (wac _ q3 (wac _ (q5 _) (Tt.b1 ?_)))));rw[wI U U];refine b3 (N-(i+1)) _ U ⟨i+1,U,rfl,?_⟩;have e1:(zvw d la N i++[replicate (N+1) false]).set i ((replicate (N+1) false).set 0 (decide (d.2.2.2.1[i]=la)))=zvw d la N (i+1):=by
   rw[List.set_append_right _ _ U,d2];unfold zvw;rw[wfl,wdc];simp only[Nat.sub_self,List.set_cons_zero,wc9,wea];unfold zor;rw[e8]
  rw[e1,List.replicate_succ' (n:=i)];rfl
 -- the rounds
 have c:=wcj c;obtain rfl:i=N:=U;clear c hi h7 b3 nx;refine Waj e3 waa.fst λz hz=>?_;subst hz;refine Tt.loop (λm s=>∃(B:Bool)(all b:W5),m=2*zvl b+(if B=true then 1 else 0)/\s=(lb,(i:Int),z,B,d,all,b)/\FI37 d z la lb all b/\(B=false->Cl37 d z lb all b)) _ waa.fst ⟨true,_,_,rfl,rfl,b7,λh=>by cases h⟩ λm s H nx b3=>?_;obtain⟨B,F,v,h8,I,hF,hC⟩:=H;subst I;dsimp only;refine wab (λc=>?_) λc=>Tt.pure ⟨F,v,rfl,hF,hC c⟩;subst c;refine Tt.loop (λm s=>∃(a:Nat)(B:Bool)(all b:W5),a<=i/\m=i-a/\s=(lb,(i:Int),z,B,(a:Int),d,all,b)/\RI37 d z la lb F v (P37 a 0 0) B all b) i waa.fst.fst ⟨0,false,F,v,U,U,rfl,hF,λh=>(by cases h),λ_=>⟨rfl,rfl⟩,λ_ p c q h=>by unfold P37 at h;omega⟩ λm s H ny i1=>?_;obtain⟨a,B,all,b,ha,m2,I,M⟩:=H;subst I;dsimp only;refine wab (λc=>?_) λc=>?_
 rotate_left
 ·-- behind a round
  have c:=wcj c;obtain rfl:a=i:=U;refine(b3 (2*zvl b+(if B=true then 1 else 0)) _ ?_ ⟨B,all,b,rfl,rfl,M.fi,λe=>?_⟩).fst
  ·rw[h8];cases B with
   |true=>
    have f:=M.dec rfl;show 2*zvl b+1<2*zvl v+1;omega
   |false=>
    rw[(M.same rfl).2];exact wew _
  ·obtain⟨rfl,rfl⟩:=M.same e;intro p q hp ⟨P,h0⟩;have hv:=(hF.sa p hp).val hm;exact M.pr e p P q (.inl (by have:=hv.1;omega)) hp h0
 have c:=wci c;have l5:a<i:=U;have Y:a<d.2.2.1.length:=U;refine Tt.loop (λm s=>∃(k:Nat)(B:Bool)(all b:W5),k<=i+1/\m=i+1-k/\s=(lb,(i:Int),z,B,(a:Int),(k:Int),d,all,b)/\RI37 d z la lb F v (P37 a k 0) B all b) (i+1) waa.fst.fst.fst ⟨0,B,all,b,U,U,rfl,M⟩ λm s H nz i2=>?_;clear M;obtain⟨k,B,all,b,hk,j8,I,M⟩:=H;subst I;dsimp only;refine wab (λc2=>?_) λc2=>?_
 rotate_left
 ·have c2:=wcj c2;refine Tt.b1 ?_;rw[wI U U];refine(i1 (i-(a+1)) _ U ⟨a+1,B,all,b,U,rfl,rfl,M.mono λe p P q u f D=>?_⟩).fst;have hv:=(hF.sa p f).val hm;have m8:=hv.2;left;unfold P37 at u⊢;omega
 have c2:=wci c2;have m1:k<=i:=U;obtain⟨W,hW⟩:∃W:Nat,d.2.1=(W:Int):=⟨d.2.1.toNat,U⟩
 have l4:W<=256:=U;refine Tt.loop (λm s=>∃(c:Nat)(B:Bool)(all b:W5),c<=W/\m=W-c/\s=(lb,(i:Int),z,B,(a:Int),(k:Int),(c:Int),d,all,b)/\RI37 d z la lb F v (P37 a k c) B all b) W waa.fst.fst.fst.fst ⟨0,B,all,b,U,U,rfl,M⟩ λm s H nu i0=>?_;clear M;obtain⟨c,B,all,b,hc,m3,I,M⟩:=H;subst I;dsimp only;obtain⟨ra,d3,k0⟩:=M.fi.a.at (show a<d.2.2.1.length from Y);have d1:k<ra.length:=U;obtain⟨q1,q2,q3,q4,_⟩:=rdM (k:=k) d3 d1;refine Tt.J (λs=>∃t,s=(lb,(i:Int),z,B,(a:Int),(k:Int),(c:Int),t,d,all,b)/\(t=true↔onM all (a,k)/\c<W)) (λnv a7=>?_) λs H=>?_
 ·refine wac _ q2 (wac _ q1 (wac _ q3 (wac _ q4 (wab (λc3=>a7 _ ⟨_,rfl,?_⟩) λc3=>a7 _ ⟨_,rfl,?_⟩))))
  ·rw[wc8];exact⟨λh=>⟨⟨ra,d3,by unfold onB;rw[wch d1,c3]⟩,U⟩,λh=>U⟩
  ·refine⟨λh=>(by cases h),λ⟨⟨r2,u,f⟩,_⟩=>?_⟩;have u:all[a]?=some r2:=u;rw[d3]at u;cases u;have f:onB ra k:=f;unfold onB at f;rw[wch d1,c3]at f;cases f
 obtain⟨t,I,ht⟩:=H;subst I;dsimp only;refine wab (λc3=>?_) λc3=>?_
 rotate_left
 ·-- behind a pair
  refine Tt.b1 ?_;rw[wI U U];refine(i2 (i+1-(k+1)) _ U ⟨k+1,B,all,b,U,rfl,rfl,M.mono λe p P q u f D=>?_⟩).fst;left;unfold P37 at u⊢;by_cases e1:p=(a,k)
  ·subst e1;right;refine⟨rfl,.inr ⟨rfl,?_⟩⟩;have e5:=(M.same e).1;have O:¬c<W:=λO=>by rw[ht.2 ⟨e5▸f,O⟩]at c3;cases c3
   have h5:=D.1;omega
  ·have e2:¬(p.1=a/\p.2=k):=λh=>e1 (Prod.ext h.1 h.2);omega
 obtain⟨i3,l6⟩:=ht.1 c3;have f2:=M.fi.sa _ i3;have A:∀(j:Nat)(hj:j<d.2.2.1.length),c<(d.2.2.1[j]).length:=λj hj=>by
  have:=hm.row j U U;rw[yf (l:=d.2.2.1) hj]at this;omega
 have b9:∀(j:Nat)(hj:j<d.2.2.1.length),nxt d j c=(d.2.2.1[j])[c]'(A j hj) /\ -1<=(d.2.2.1[j])[c]'(A j hj)/\(d.2.2.1[j])[c]'(A j hj)<i:=λj hj=>by
  have u:=zh2 hj (A j hj);have : -1<=nxt d j (c:Int)/\nxt d j (c:Int)<d.2.2.1.length:=hm.nx j c U U U U;rw[u]at this;exact⟨u,U,U⟩
 obtain⟨d5,a9,i5⟩:=b9 a Y;refine Tt.J (λs=>∃(C:Bool)(zc8 o:W5),s=(lb,(i:Int),z,C,(a:Int),(k:Int),(c:Int),d,zc8,o)/\RI37 d z la lb F v (P37 a k (c+1)) C zc8 o) (λnv a7=>?_) λs H=>?_
 rotate_left
 ·obtain⟨C,zc8,o,I,T⟩:=H;subst I;dsimp only;refine Tt.b1 ?_;rw[wI U U];exact i0 (W-(c+1)) _ U ⟨c+1,C,zc8,o,U,rfl,rfl,T⟩
 have f6:∀p P,P37 a k (c+1) p P->P37 a k c p P\/p=(a,k)/\P=c:=λp P h=>by
  unfold P37 at h⊢;by_cases e1:p.1=a/\p.2=k/\P=c
  ·exact .inr ⟨Prod.ext e1.1 e1.2.1,e1.2.2⟩
  ·left;omega
 refine wac _ (atN Y) (wac _ (atN (A a Y)) (wab (λc4=>?_) λc4=>?_))
 ·have c4:=wci c4;refine a7 _ ⟨B,all,b,rfl,M.mono λe p P q u f D=>?_⟩;rcases f6 p P u with h|⟨rfl,rfl⟩
  ·exact .inl h
  ·have:nxt d a (P:Int)=(q.1:Int):=D.2.1;omega
 have c4:=wcj c4;obtain⟨y,hy⟩:∃y:Nat,(d.2.2.1[a])[c]'(A a Y)=(y:Int):=⟨((d.2.2.1[a])[c]'(A a Y)).toNat,U⟩
 rw[hy];rw[hy]at d5 a9 i5 c4;have n2:y<i:=U
 -- the places
 refine Tt.J (λs=>∃G:Wam Nat,s=(lb,(i:Int),z,B,(a:Int),(k:Int),(c:Int),(y:Int),d,all,b,G.map λ(j:Nat)=>(j:Int))/\G.length<=2/\(∀q,E37c d z lb c (a,k) q↔q.1=y/\q.2∈G)) (λnw b2=>?_) λs H=>?_
 ·refine wab (λS=>?_) λS=>?_
  ·have S:=wci S;have b0:k<d.2.2.1.length:=U;obtain⟨d7,i6,i7⟩:=b9 k b0;refine wac _ (atN b0) (wac _ (atN (A k b0)) ?_);generalize (d.2.2.1[k])[c]'(A k b0)=g at d7 i6 i7;have hE:∀q,E37c d z lb c (a,k) q↔q.1=y/\∃x:Nat,g=(x:Int)/\onB z x/\(q.2=x\/q.2=i/\Jw d x=lb):=λq=>by
    unfold E37c;rw[hN];constructor
    ·rintro⟨_,f,D⟩;have f:nxt d a (c:Int)=(q.1:Int):=f;refine⟨U,?_⟩;rcases D with⟨D,_⟩|⟨_,x,O,h5⟩
     ·have D:k=i:=D;omega
     ·exact⟨x,d7.symm.trans O,h5⟩
    ·rintro⟨u,x,f,D⟩;exact⟨U,by rw[u];exact d5,.inr ⟨by show k<i;omega,x,d7.trans f,D⟩⟩
   refine Tt.J (λs=>∃t,s=(lb,(i:Int),z,B,(a:Int),(k:Int),(c:Int),(y:Int),g,t,d,all,b,[])/\(t=true↔∃x:Nat,g=(x:Int)/\onB z x)) (λnt f1=>?_) λs H=>?_
   ·refine Tt.b1 (wab (λQ=>?_) λQ=>?_)
    ·have Q:=wci Q;obtain⟨x,rfl⟩:∃x:Nat,g=(x:Int):=⟨g.toNat,U⟩
     have a0:x<z.length:=U;refine wac _ (atN a0) (f1 _ ⟨_,rfl,?_⟩);constructor
     ·intro h;exact⟨x,rfl,by unfold onB;rw[wch a0,h]⟩
     ·rintro⟨x2,u,f⟩;have:x=x2:=U;subst this;unfold onB at f;rw[wch a0]at f;exact wd2 f
    ·have Q:=wcj Q;exact f1 _ ⟨false,rfl,⟨λh=>(by cases h),λ⟨x,h,_⟩=>U⟩⟩
   obtain⟨t,I,f7⟩:=H;subst I;dsimp only;refine wab (λQ=>?_) λQ=>?_
   ·obtain⟨x,rfl,a0⟩:=f7.1 Q;have g0:x<d.2.2.2.1.length:=U;have e9:Jw d x=d.2.2.2.1[x]:=yf g0;refine wac _ (yi V U) (wac _ (atN g0) (wab (λc7=>?_) λc7=>?_))
    ·have c7:=wci c7;refine wac _ (yi V U) (b2 _ ⟨[x,i],rfl,V,λq=>?_⟩);rw[hE];constructor
     ·rintro⟨u,x2,f,D,O⟩;have:x=x2:=U;subst this;exact⟨u,by rcases O with O|⟨O,_⟩<;>simp[O]⟩
     ·rintro⟨u,f⟩;simp only[wda,List.not_mem_nil,or_false]at f;exact⟨u,x,rfl,a0,f.imp id λh=>⟨h,e9.trans c7⟩⟩
    ·have c7:=wcj c7;refine b2 _ ⟨[x],rfl,V,λq=>?_⟩;rw[hE];constructor
     ·rintro⟨u,x2,f,D,O⟩;have:x=x2:=U;subst this;rcases O with O|⟨_,O⟩
      ·exact⟨u,by simp[O]⟩
      ·exact absurd (e9.symm.trans O) c7
     ·rintro⟨u,f⟩;exact⟨u,x,rfl,a0,.inl (by simpa using f)⟩
   ·refine b2 _ ⟨[],rfl,V,λq=>?_⟩;rw[hE];constructor
    ·rintro⟨_,x,f,D,_⟩;rw[f7.2 ⟨x,f,D⟩]at Q;cases Q
    ·rintro⟨_,h⟩;cases h
  ·have S:=wcj S;obtain rfl:k=i:=U;refine b2 _ ⟨[k],rfl,V,λq=>?_⟩;unfold E37c;rw[hN];constructor
   ·rintro⟨_,f,D⟩;have f:nxt d a _=(q.1:Int):=f;refine⟨U,?_⟩;rcases D with⟨_,D⟩|⟨D,_⟩
    ·simp[D]
    ·have D:k<k:=D;omega
   ·rintro⟨u,f⟩;exact⟨U,by rw[u];exact d5,.inl ⟨rfl,by simpa using f⟩⟩
 obtain⟨G,I,m6,hE⟩:=H;subst I;dsimp only;have f4:∀j∈G,j<=i:=λj hj=>by
  have:=((hE (y,j)).2 ⟨rfl,hj⟩).val hm (f2.val hm);have:=this.2;omega
 refine Tt.loop (λm s=>∃(j:Nat)(C:Bool)(zc8 o:W5),j<=G.length/\m=G.length-j/\s=(lb,(i:Int),z,C,(a:Int),(k:Int),(c:Int),(y:Int),(j:Int),d,zc8,o,G.map λ(j:Nat)=>(j:Int))/\RI37 d z la lb F v (P37 a k c) C zc8 o/\(C=false->∀j',j'<j->∀x,G[j']?=some x->onM v (y,x))) G.length waa.fst.fst.fst.fst.fst ⟨0,B,all,b,U,U,rfl,M,λ_ j' h=>U⟩ λm s H no h9=>?_;obtain⟨j,C,zc8,o,hj,m4,I,T,f3⟩:=H;subst I;dsimp only;refine wab (λS=>?_) λS=>?_
 rotate_left
 ·have S:=wcj S;have Z:G.length<=j:=by simp at S;omega
  refine(a7 _ ⟨C,zc8,o,rfl,T.mono λe p P q u f D=>?_⟩).fst;rcases f6 p P u with h|⟨rfl,rfl⟩
  ·exact .inl h
  ·right;obtain⟨O,h5⟩:=(hE q).1 D;obtain⟨j',h6⟩:=wdb h5;have:=f3 e j' (by have:=(wcl.1 h6).1;omega) q.2 h6;rwa [<- O]at this
 have S:=wci S;have Z:j<G.length:=by simpa using S
 have R:atL (G.map λ(j:Nat)=>(j:Int)) (j:Int)=some ((G[j]:Nat):Int):=by
  rw[atN (by simpa using Z)];simp
 have a8:jq (G.map λ(j:Nat)=>(j:Int)).length (j:Int)=some (j:Int):=vn (by simpa using Z);have g6:=f4 G[j] (wcm Z);have f8:=(hE (y,G[j])).2 ⟨rfl,wcm Z⟩;have c0:G[j]?=some G[j]:=wch Z;generalize G[j]=x at R g6 f8 c0;obtain⟨sa,f5,k1⟩:=T.fi.a.at (show y<d.2.2.1.length by omega);obtain⟨sg,d4,k2⟩:=T.fi.g.at (show y<d.2.2.1.length by omega);have f9:x<sa.length:=U;have d6:x<sg.length:=U;obtain⟨a1,a2,a3,a4,a5⟩:=rdM (k:=x) f5 f9;obtain⟨g1,g2,g3,g4,g5⟩:=rdM (k:=x) d4 d6;refine Tt.J (λs=>∃b4,s=(lb,(i:Int),z,b4,(a:Int),(k:Int),(c:Int),(y:Int),(j:Int),d,zc8,o,G.map λ(j:Nat)=>(j:Int))/\(b4=true↔C=true\/sg[x]=false)) (λnp f0=>?_) λs H=>?_
 ·refine wab (λQ=>f0 _ ⟨true,rfl,⟨λ_=> .inl Q,λ_=>rfl⟩⟩) λQ=>?_;refine wac _ g2 (wac _ g1 (wac _ a8 (wac _ R (wac _ g3 (wac _ g4 (f0 _ ⟨_,rfl,?_⟩))))));rw[Q];simp
 obtain⟨b4,I,b8⟩:=H;subst I;dsimp only;refine wac _ a2 (wac _ a1 (wac _ a8 (wac _ R (wac _ a3 (wac _ (a5 true) (wac _ g2 (wac _ g1 (wac _ a8 (wac _ R (wac _ g3 (wac _ (g5 true) (Tt.b1 ?_))))))))))));rw[wI U U];have c1:=T.put f5 d4 f9 d6 ⟨(a,k),f2,c,f8⟩ b8;refine h9 (G.length-(j+1)) _ U ⟨j+1,b4,_,_,U,rfl,rfl,c1,λe j' m0 x2 a9=>?_⟩;have u:C=false:=by
  cases hh:C with
  |false=>rfl
  |true=>rw[b8.2 (.inl hh)]at e;cases e
 by_cases e2:j'=j
 ·subst e2;rw[c0]at a9;cases a9;have f:=(c1.same e).2;rw[<- f];exact(zjc d4 d6).2 (.inl rfl)
 ·exact f3 u j' U x2 a9
def onM_lt{m:W5}{p:Nat×Nat}(h:onM m p):p.1<m.length:=by obtain⟨r,a,_⟩:=h;grind
section
variable{d:je}{L:List Bool}{la lb:Int}{all got:List (List Bool)}{dp:List (Nat × Nat)}{bad:Bool}
def St37.mem(a:St37 d L la lb dp [] bad){p:Nat×Nat}:p∈dp↔R37 d L la lb p:=by have e:∀q,q∈dp++[]↔q∈dp:=λq=>V;constructor;{exact λh=>a.rch p ((e p).2 h)};.intro h;induction h with|base h=>{exact(e _).1 (a.st _ h)}|step _ h b=>exact(e _).1 (a.cl _ b _ h)
def St37.bad37(e:St37 d L la lb dp [] bad):bad=true↔∃q,G37 d L la lb q/\0<=Jw d q.1:=by rw[e.bd];constructor;{rintro⟨p,c,q,a,b⟩;exact⟨q,⟨p,e.mem.1 c,a⟩,b⟩};.rintro⟨q,⟨p,c,a⟩,b⟩;exact⟨p,e.mem.2 c,q,a,b⟩
end
section
variable{g:jb}{d:je}{tb:List (List Int)}{df:jd}{la lb:Int}{dp:List (Nat × Nat)}{bad:Bool}
def z1v(P:DSz d)(hm:MOk d)(Y:Tn (λM=>J2 M (g,d,tb,df,()) la lb) (λr=>r=true))(A:St37 d (za9 d.2.2.1.length (aE d) (bS d lb)) la lb dp [] bad):Tn (λM=>Vr M (g,d,tb,df,()) la lb) (λr=>r=(dp.length:Int)):=by
 unfold Vr;refine Waj Y waa λt ht=>?_;subst ht;refine wae rfl (Waj (zzi la lb P hm) waa λr w=>?_);obtain⟨all,got,w,C,T⟩:=w;subst w;obtain⟨f,_⟩:=C.all T;have Q:=P.n;have l:∀p,onM all p->p.1<d.2.2.1.length/\p.2<=d.2.2.1.length:=λp q=>((f p).1 q).val hm;have G:=C.a.len;have O:=C.a;generalize hN:d.2.2.1.length=N at Q l G O;have y:∀b:Wam (Nat×Nat),b.Nodup->(∀p∈b,onM all p)->b.length<=1000000:=λb u v=>by{have h3:=z1a u λp q=>l p (v p q);have:N*(N+1)<=300*301:=Nat.mul_le_mul Q U;omega};refine Tt.loop (λm s=>∃(i:Nat)(b:Wam (Nat×Nat)),i<=N/\m=N-i/\s=(all,(b.length:Int),(i:Int))/\b.Nodup/\∀p,p∈b↔onM all p/\p.1<i) N waa ⟨0,[],U,Wab,rfl,List.nodup_nil,λp=>V⟩ λm s x nx H=>?_;obtain⟨i,b,hi,Z,rfl,e,k⟩:=x;dsimp only;refine wad (λc=>?_) λc=>Tt.pure ?_;rotate_left
 {have u:=z6u e λp q=>A.mem.2 ((f p).1 ((k p).1 q).1);have v:=z6u (by have:=A.nd;grind) λp q=>(k p).2 ⟨(f p).2 (A.mem.1 q),by have:=l p ((f p).2 (A.mem.1 q));omega⟩;omega};have D:i<N:=U;obtain⟨r,w,a1⟩:=O.at D;refine Tt.loop (λm s=>∃(j:Nat)(b:Wam (Nat×Nat)),j<=N+1/\m=N+1-j/\s=(all,(b.length:Int),(i:Int),(j:Int))/\b.Nodup/\∀p,p∈b↔onM all p/\(p.1<i\/p.1=i/\p.2<j)) (N+1) waa.fst ⟨0,b,U,Wab,rfl,e,λp=>X⟩ λm s x ny I=>?_;clear e k;obtain⟨j,b,hj,a0,rfl,e,k⟩:=x;dsimp only;have R:atL all (i:Int)=some r:=by{assumption};refine wac _ R (wad (λS=>?_) λS=>?_);rotate_left
 {refine wai ?_;refine(H (N-(i+1)) _ U ⟨i+1,b,U,rfl,rfl,e,λp=>?_⟩).fst;grind};have F:j<r.length:=U;have hl:=y b e λp q=>((k p).1 q).1;refine Tt.J (λs=>∃o:Wam (Nat×Nat),s=(all,(o.length:Int),(i:Int),(j:Int))/\o.Nodup/\∀p,p∈o↔onM all p/\(p.1<i\/p.1=i/\p.2<j+1)) (λnv z=>?_) λs x=>?_;rotate_left
 {obtain⟨o,rfl,u,v⟩:=x;dsimp only;refine wai ?_;exact I (N+1-(j+1)) _ U ⟨j+1,o,U,rfl,rfl,u,v⟩};have L:onM all (i,j)↔r[j]=true:=by{constructor;{rintro⟨r2,u,v⟩;have u:=u;rw[w]at u;cases u;have v:=v;unfold onB at v;grind};.intro h;exact⟨r,w,by unfold onB;grind⟩};have a2:∀p,(p.1<i\/p.1=i/\p.2<j+1)↔(p.1<i\/p.1=i/\p.2<j)\/p=(i,j):=λp=>by{grind};refine wac _ R (Tt.at F (wab (λB=>?_) λB=>?_));{have B:=L.2 B;refine wai ?_;refine z _ ⟨b++[(i,j)],V,zxo e λh=>?_,λp=>?_⟩;{grind};grind};.have c4:¬onM all (i,j):=λh=>X;refine z _ ⟨b,rfl,e,λp=>?_⟩;grind
def zy2(H:DSz d)(hm:MOk d)(T:Tn (λF=>J2 F (g,d,tb,df,()) la lb) (λr=>r=true))(hs:St37 d (za9 d.2.2.1.length (aE d) (bS d lb)) la lb dp [] bad):Tn (λF=>Q1 F (g,d,tb,df,()) la lb) (λr=>r = !bad):=by
 unfold Q1;refine Waj T waa λt O=>?_;subst O;refine wae rfl (Waj (zzi la lb H hm) waa λr f=>?_);obtain⟨all,got,f,v,S⟩:=f;subst f;obtain⟨_,I⟩:=v.all S;have hn:=H.n;have o:=hm.lab;have u:∀p,onM got p->p.1<d.2.2.1.length:=λp hp=>by{rw[<- v.g.len];exact onM_lt hp};have A:=v.g.len;have G:=v.g;have hb:=hs.bad37;generalize hN:d.2.2.1.length=N at hn u A G o;refine Tt.loop (λm s=>∃i,i<=N/\m=N-i/\s=(got,(i:Int),(g,d,tb,df,()))/\∀p,onM got p->p.1<i->¬0<=Jw d p.1) N waa ⟨0,U,Wab,rfl,λp _ h=>U⟩ λm s k nx B=>?_;obtain⟨i,hi,Y,rfl,b⟩:=k;dsimp only;refine wad (λc=>?_) λc=>Tt.pure ?_;rotate_left
 {grind};have y:i<N:=U;have l:i<d.2.2.2.1.length:=U;have L:Jw d i=d.2.2.2.1[i]:=yf l;obtain⟨r,f,D⟩:=G.at y;refine Tt.loop (λm s=>∃j,j<=N+1/\m=N+1-j/\s=(got,(i:Int),(j:Int),(g,d,tb,df,()))/\∀p,onM got p->(p.1<i\/p.1=i/\p.2<j)->¬0<=Jw d p.1) (N+1) waa.fst ⟨0,U,Wab,rfl,λp a e=>b p a U⟩ λm s k ny C=>?_;clear b;obtain⟨j,hj,Z,rfl,b⟩:=k;dsimp only;have P:atL got (i:Int)=some r:=by{assumption};have M:∀p,onM got p->p.1=i->p.2<N+1:=λp a e=>by{obtain⟨r2,x,R⟩:=a;rw[e,f]at x;cases x;rw[<- D];exact(wcl.1 R).1};refine wac _ P (wad (λQ=>?_) λQ=>?_);rotate_left
 {refine wai ?_;exact(B (N-(i+1)) _ U ⟨i+1,U,rfl,rfl,λp a e=>b p a X⟩).fst};have z:j<r.length:=U;have a1:onM got (i,j)↔r[j]=true:=by{constructor;{rintro⟨r2,a,e⟩;have a:=a;rw[f]at a;cases a;have e:=e;unfold onB at e;grind};.intro h;exact⟨r,f,by unfold onB;grind⟩};refine Tt.J (λs=>∃t,s=(got,(i:Int),(j:Int),t,(g,d,tb,df,()))/\(t=true↔onM got (i,j)/\0<=Jw d i)) (λnv q=>?_) λs k=>?_;{refine wac _ P (Tt.at z (wab (λw=>?_) λw=>(q _ ⟨false,rfl,λh=>X,λh=>X⟩)));.refine Tt.at l (q _ ⟨_,rfl,?_⟩);grind};obtain⟨t,rfl,O⟩:=k;dsimp only;refine wab (λw=>Tt.pure ?_) λw=>?_;{grind};.refine wai ?_;refine C (N+1-(j+1)) _ U ⟨j+1,U,rfl,rfl,λp a e x=>?_⟩;grind
end
section
variable{ι α β:Type}{D:Fi ι}
def wby{l:Wam α}{x y:ι->Wal β}{Q:β->Prop}(h0:l=[]->Tt D x Q)(b:l≠[]->Tt D y Q):Tt D (λi=>Go.Proofs.YtigdmmgklieofaaGreat.T.nilC l (x i) (y i)) Q:=by cases l with|nil=>{exact h0 rfl}|cons a l=>exact b V
def jhb{l:Wam α}(h:l≠[]):zyk l=some false:=by cases l with|nil=>{grind}|cons a l=>rfl
def jas{b:Nat}{l:Wam α}(a:l.length<=maxLen)(c:l.length*b<=140737488355328):apO b [] l=some l:=by unfold apO;grind
def set_id{l:Wam α}{i:Nat}{a:α}(h:i<l.length)(e:a=l[i]):l.set i a=l:=by simp_all
def wbl{l:Wam α}{i:Nat}{f:α->α}{k:ι->Wam α->Wal β}{Q:β->Prop}(h:i<l.length)(e:f l[i]=l[i])(c:Tt D (λj=>k j l) Q):Tt D (λj=>ja (jq l.length (i:Int)) λa=>ja (ja (atL l a) λb1=>yj l a (f b1)) λb=>k j b) Q:=by refine wac _ (vn h) (wac l ?_ c);rw[atN h];show yj l (i:Int) (f l[i])=some l;rw[yu _ h,set_id h e]
end
structure GItems(g:jb):Prop where
 t:∀x∈g.1,x.2.1.length<=1000000
 n:g.1.length<=1000000/\g.2.1.length<=1000000/\g.2.2.1.length<=1000000
 p:∀x∈g.2.2.1,x.2.1.length*32<=140737488355328
def jpo(g:jb)(f:GItems g):Tn (λB=>yv B g) (λr=>r=g):=by obtain⟨d,h,ps,k,l,o,q,v,u⟩:=g;have C:d.length<=1000000:=f.n.1;have D:h.length<=1000000:=f.n.2.1;have F:ps.length<=1000000:=f.n.2.2;unfold yv;dsimp only;refine Tt.J (λs=>s=(h,ps,k,l,o,q,v,([],[],[],0,0,0,0,0,()),d)) (λj a=>?_) λs x=>?_;{refine wby (λe=>a _ ?_) λe=>wac _ (jhb e) (wae rfl (wac _ (jas (by unfold maxLen;omega) U) (a _ rfl)));grind};subst x;dsimp only;refine Tt.loop (λm s=>∃i,i<=d.length/\m=d.length-i/\s=((d.length:Int),(i:Int),h,ps,k,l,o,q,v,([],[],[],0,0,0,0,0,()),d)) d.length waa ⟨0,U,Wab,rfl⟩ λm s w j a=>?_;obtain⟨i,y,z,rfl⟩:=w;dsimp only;refine wad (λc=>?_) λc=>?_;{have b:i<d.length:=U;have A:=f.t d[i] (wcm b);refine waj b (Tt.at b (wac _ (jas (by unfold maxLen;omega) U) ?_));refine wbl b rfl (wai ?_);exact a (d.length-(i+1)) _ U ⟨i+1,U,rfl,rfl⟩};clear a j;refine wac _ (jas (by unfold maxLen;omega) U) ?_;refine Tt.J (λs=>s=(k,l,o,q,v,([],[],[],0,0,0,0,0,()),d,h,ps)) (λj a=>?_) λs x=>?_;{refine wby (λe=>a _ ?_) λe=>wac _ (jhb e) (wae rfl (wac _ (jas (by unfold maxLen;omega) U) (a _ rfl)));grind};subst x;dsimp only;refine Tt.loop (λm s=>∃i,i<=ps.length/\m=ps.length-i/\s=((ps.length:Int),(i:Int),k,l,o,q,v,([],[],[],0,0,0,0,0,()),d,h,ps)) ps.length waa.fst ⟨0,U,Wab,rfl⟩ λm s w j a=>?_;clear c z y;obtain⟨i,y,z,rfl⟩:=w;dsimp only;refine wad (λc=>?_) λc=>Tt.pure rfl;have b:i<ps.length:=U;have A:=f.p ps[i] (wcm b);refine waj b (Tt.at b (wac _ (jas (by unfold maxLen;omega) U) ?_));refine wbl b rfl (wai ?_);exact a (ps.length-(i+1)) _ U ⟨i+1,U,rfl,rfl⟩
def jif{l:W4}(h:l.length<=1000000)(e:∀x∈l,x.length<=1000000):Tn (λf=>Qo f l) (λr=>r=l):=by unfold Qo;refine Tt.loop (λm s=>∃i,i<=l.length/\m=l.length-i/\s=(l,(l.length:Int),(i:Int),l.take i)) l.length waa ⟨0,U,Wab,rfl⟩ λm s d k b=>?_;obtain⟨i,g,j,rfl⟩:=d;dsimp only;refine wad (λc=>?_) λc=>Tt.pure ?_;{have a:i<l.length:=U;refine Tt.at a (wac _ (sm7 (e _ (wcm a))) (wac _ (yi X U) (wai ?_)));rw[<- wcp a];exact b (l.length-(i+1)) _ U ⟨i+1,U,rfl,rfl⟩};grind
set_option maxRecDepth 100000
def jfb(x:Int):W7->W7
 |[]=>[x]
 |y::l=>match decide (x<=y)with
  |true=>x::y::l
  |false=>y::jfb x l
def jvm:W7->W7
 |[]=>[]
 |x::l=>jfb x (jvm l)
def ztd(x:Int):∀l:W7,(jfb x l).Perm (x::l)
 |[]=>List.Perm.refl _
 |y::l=>by unfold jfb;split;{exact List.Perm.refl _};.exact((ztd x l).cons y).trans (List.Perm.swap x y l)
def jbx(x:Int):∀l:W7,l.Pairwise (·<=·)->(jfb x l).Pairwise (·<=·)
 |[],_=>by simp[jfb]
 |y::l,h=>by
  rw[wdj]at h;unfold jfb;split
  .rename_i c;have c:=wci c;rw[wdj,wdj];exact⟨λz hz=>by
    rcases wda.1 hz with rfl|hz;{exact c};.exact Int.le_trans c (h.1 z hz),h⟩
  .rename_i c;have c:=wcj c;rw[wdj];refine⟨λz hz=>?_,jbx x l h.2⟩;rcases wda.1 ((ztd x l).mem_iff.1 hz)with rfl|hz;{omega};.exact h.1 z hz
def zxi:∀l:W7,(jvm l).Perm l/\(jvm l).Pairwise (·<=·)
 |[]=>⟨List.Perm.refl _,List.Pairwise.nil⟩
 |x::l=>⟨(ztd x _).trans ((zxi l).1.cons x),jbx x _ (zxi l).2⟩
def jil:∀{l m:W7},l.Pairwise (·<=·)->m.Pairwise (·<=·)->l.Perm m->l=m
 |[],m,_,_,h=>(List.nil_perm.1 h).symm
 |x::l,[],_,_,h=>by have:=h.length_eq;simp at this
 |x::l,y::m,a,b,h=>by rw[wdj]at a b;have c:x<=y:=by{rcases wda.1 (h.mem_iff.2 (by simp:y∈y::m))with e|e;{omega};.exact a.1 y e};have d:y<=x:=by{rcases wda.1 (h.mem_iff.1 (by simp:x∈x::l))with e|e;{omega};.exact b.1 x e};have e:x=y:=U;subst e;rw[jil a.2 b.2 (h.cons_inv)]
def jjp:ze3=jvm:=funext λl=>jil (zka l) (zxi l).2 ((List.mergeSort_perm l _).trans (zxi l).1.symm)
def jtq(a:Nat):Qq (a+300)=some true:=by unfold Qq zf Ya zo Ja;simp only[jjp];kernel_rfl
def zhs:Tn (λa=>Qq a) (λb=>b=true):=⟨true,⟨300,λn c=>by
 obtain⟨k,rfl⟩:∃k,n=k+300:=⟨n-300,U⟩
 exact jtq k⟩,rfl⟩
def jdc(g:jb)(e:jmn g):Tn (λi=>zar i g) (λb=>b=true->GBu g):=by
 unfold zar;refine Tt.J (λb=>b=true->GBu g) (λk a=>?_) λs f=>Tt.pure f;exact Waj (jk2 g e) waa λb d=>(wab (λc=>wab (λj=>a _ λ_=>d c) λ_=>a _ λh=>X) λ_=>a _ λh=>X)
def df0(df:jd):Bool:=zq4 [df.1 == 0,df.2.1 == 0,df.2.2.1 == 0]
def jow{df:jd}(h:df0 df=true):df.1=0:=by unfold df0 at h;simp[zq4]at h;omega
def ziz(g:jb)(df:jd)(la lb:Int):Prop:=df0 df=true/\(0<=la/\la<(g.1.length:Int))/\0<=lb/\lb<(g.1.length:Int)
def jdy{g:jb}{df:jd}{la lb:Int}(h:ziz g df la lb)(j:Nat)(x:Int)(a:[la,lb][j]?=some x):0<=x/\x<(g.1.length:Int):=by
 match j with
 |0=>cases a;exact h.2.1
 |1=>cases a;exact h.2.2
 |j+2=>grind
def jjb{g:jb}{d:je}{tb:W4}{df:jd}{la lb:Int}(q:df0 df=true->Tn (λm=>Jt m d.1) (λx=>x=d.2.1)):Tn (λm=>J2 m (g,d,tb,df,()) la lb) (λb=>b=true↔ziz g df la lb):=by
 unfold J2;dsimp only;refine Tt.b1 (Tt.J (λb=>b=true↔ziz g df la lb) (λr a=>?_) λs p=>Tt.pure p);refine Tt.b1 (x:=df0 df) (wab (λc=>?_) λc=>a _ ⟨λh=>X,λh=>by rw[h.1]at c;grind⟩);have f:¬ziz g df la lb->(false=true↔ziz g df la lb):=λh=>⟨λh=>X,λn=>absurd n h⟩
 refine wad (λi=>?_) λi=>a _ (f λh=>absurd h.2.1.1 i);refine wad (λj=>?_) λj=>a _ (f λh=>absurd h.2.1.2 j);refine wad (λk=>?_) λk=>a _ (f λh=>absurd h.2.2.1 k);refine wad (λl=>?_) λl=>a _ (f λh=>absurd h.2.2.2 l);refine Waj (q c) waa λe o=>a _ ?_;rw[o];exact⟨λ_=>⟨c,⟨i,j⟩,k,l⟩,λ_=>wdf rfl⟩
def smallT{d:je}(h:DSz d/\MOk d):DSz d/\MOk d/\True:=⟨h.1,h.2,trivial⟩
theorem jd7{g:jb}{a1 a2:Int}{r:je×List (List Int)×jd×Unit}(hS:Tn (λnn=>zar nn g) (λb=>b=true))(hO:Tn (λnn=>yv nn g) (λx=>x=g))(hA:Tn (λnn=>zf nn g) (λx=>x=r))(hR:Tn (λnn=>Qk nn g) (λx=>x=r))
  (h1:r.1.2.2.1.length<=1000000/\(∀l∈r.1.2.2.1,l.length<=1000000)/\r.1.2.2.2.1.length<=1000000) (h3:r.2.2.1.1=0->DSz r.1/\MOk r.1/\Tn (λnn=>Jt nn r.1.1) (λx=>x=r.1.2.1)):Tn (λnn=>Qt nn g a1 a2) (λb=>b=true):=by
 have hNew:Tn (λnn=>zg9 nn g) (λx=>x=(g,r.1,r.2.1,r.2.2.1,())):=by
  unfold zg9;exact Tt.bind (Tt.call hR waa) λx hx=>Tt.pure (by grind)
 obtain⟨tk,hT,htk⟩:=(jjb (g:=g) (d:=r.1) (tb:=r.2.1) (df:=r.2.2.1) (la:=a1) (lb:=a2) λh=>(h3 (jow h)).2.2).val;have k3:ziz g r.2.2.1 a1 a2->DSz r.1/\MOk r.1:=λh=>⟨(h3 (jow h.1)).1,(h3 (jow h.1)).2.1⟩
 have hC0:¬ziz g r.2.2.1 a1 a2->Tn (λnn=>Vr nn (g,r.1,r.2.1,r.2.2.1,()) a1 a2) (λx=>x=0):=λh=>by
  unfold Vr;refine Tt.bind (Tt.call hT waa) λb hb=>?_;rw[hb];exact wab (λ_=>Tt.pure rfl) λc=>absurd (htk.1 (by grind)) h
 have hB0:¬ziz g r.2.2.1 a1 a2->Tn (λnn=>Q1 nn (g,r.1,r.2.1,r.2.2.1,()) a1 a2) (λx=>x=false):=λh=>by
  unfold Q1;refine Tt.bind (Tt.call hT waa) λb hb=>?_;rw[hb];exact wab (λ_=>Tt.pure rfl) λc=>absurd (htk.1 (by grind)) h
 have hT1:ziz g r.2.2.1 a1 a2->Tn (λnn=>J2 nn (g,r.1,r.2.1,r.2.2.1,()) a1 a2) (λb=>b=true):=λh=>hT.mono λb hb=>hb.trans (htk.2 h);clear hT htk h3;unfold Qt;refine Tt.bind (Tt.call hS waa) λb hb=>?_;subst hb;refine wae rfl (Tt.bind (Tt.call hO waa) λc hc=>?_);rw[hc];clear hc c;refine Tt.bind (Tt.call hNew waa) λd hd=>?_;rw[hd];clear hd d;refine wab (λ_=>Tt.bind (Tt.call zhs waa) λk hk=>Tt.pure hk) λ_=>?_;refine Tt.J (λb=>b=true) (λnx hnx=>?_) λs hs=>Tt.pure hs;refine Tt.J (λs=>∃t:Bool,s=(a1,a2,t,g,(),(),(),(0,0,()),(r.1,r.2.1,r.2.2.1,()),(),(),w64 (0+1),(),(),w64 (0+1))/\(t=true↔¬ziz g r.2.2.1 a1 a2)) (λnv hnv=>?_) λs hI=>?_
 ·refine Tt.bind (Tt.call hA waa) λs6 h6=>?_;rw[h6];clear h6 s6;refine wab (λc=>?_) λc=>?_
  ·have hnT:¬ziz g r.2.2.1 a1 a2:=λh=>by
    have h:df0 r.2.2.1=true:=h.1;have c:(!df0 r.2.2.1)=true:=c
    grind
   exact hnv _ ⟨true,rfl,λ_=>hnT,λ_=>rfl⟩
  have hdf:df0 r.2.2.1=true:=by
   have c:(!df0 r.2.2.1)=false:=c
   grind
  clear c;refine Tt.bind (Tt.call hO waa) λs7 h7=>?_;rw[h7];refine Tt.loop (λm s=>∃i:Nat,i<=2/\m=2-i/\s=((g.1.length:Int),[a1,a2],(2:Int),(i:Int),g,(),(),(),(0,0,()),(r.1,r.2.1,r.2.2.1,()),(),(),w64 (0+1),(),(),w64 (0+1))/\∀j:Nat,j<i->∀x,[a1,a2][j]?=some x->0<=x/\x<(g.1.length:Int)) 2 waa ⟨0,by omega,by rfl,rfl,λj h=>by omega⟩ λm s hI ny hny=>?_;obtain⟨i,hi,hmi,hs,hok⟩:=hI;subst hs;dsimp only;refine wab (λcl=>?_) λcl=>?_
  ·have cl:=wci cl;have hi2:i<[a1,a2].length:=by grind
   have hxi:[a1,a2][i]?=some ([a1,a2][i]'hi2):=wch hi2;refine wac _ (atN hi2) ?_;generalize [a1,a2][i]'hi2=x at hxi;refine Tt.J (λs=>∃t:Bool,s=((g.1.length:Int),[a1,a2],(2:Int),(i:Int),t,g,(),(),(),(0,0,()),(r.1,r.2.1,r.2.2.1,()),(),(),w64 (0+1),(),(),w64 (0+1))/\(t=false↔0<=x/\x<(g.1.length:Int))) (λnz2 hnz2=>?_) λs hI=>?_
   ·refine Tt.b1 (wab (λc2=>hnz2 _ ⟨_,rfl,?_⟩) λc2=>hnz2 _ ⟨_,rfl,?_⟩)
    ·grind
    grind
   obtain⟨t,hs,ht⟩:=hI;subst hs;dsimp only;refine wab (λc3=>?_) λc3=>?_
   ·have hnT:¬ziz g r.2.2.1 a1 a2:=λh=>by
     rw[ht.2 (jdy h i x hxi)]at c3;grind
    exact(hnv _ ⟨true,rfl,λ_=>hnT,λ_=>rfl⟩).fst
   ·refine Tt.b1 ?_;rw[wI (by omega) (by omega)];refine hny (2-(i+1)) _ (by omega) ⟨i+1,by omega,rfl,rfl,λj hj y hy=>?_⟩
    grind
  ·have cl:=wcj cl;have hTk:ziz g r.2.2.1 a1 a2:=⟨hdf,hok 0 (by omega) a1 rfl,hok 1 (by omega) a2 rfl⟩
   exact(hnv _ ⟨false,rfl,λh=>(by grind),λh=>absurd hTk h⟩).fst
 obtain⟨t,hs,ht⟩:=hI;subst hs;dsimp only;refine wab (λct=>?_) λct=>?_
 ·have hnT:=ht.1 ct;refine Tt.bind (Tt.call (hC0 hnT) waa) λy hy=>?_;rw[hy];refine Tt.b1 (wah rfl ?_);refine Tt.J (λs=>s.1=false) (λnz hnz=>?_) λs hs=>?_
  rotate_left
  ·obtain⟨b0,b1,b2,b3,b4,b5,b6,b7,b8,b9,c0,c1,c2⟩:=s;dsimp only at hs⊢;refine Tt.bind (Tt.call (hB0 hnT) waa) λc4 h4=>?_;rw[h4,hs];exact wah rfl (Tt.bind (Tt.call zhs waa) λc5 h5=>hnx _ h5)
  refine wab (λc=>?_) λc=>?_
  ·have hnT:¬ziz g r.2.2.1 a1 a2:=λh=>by
    grind
   exact hnz _ rfl
  have hdf:df0 r.2.2.1=true:=by
   have c:(!df0 r.2.2.1)=false:=c
   grind
  clear c;refine Tt.bind (Tt.call hO waa) λs7 h7=>?_;rw[h7];refine Tt.loop (λm s=>∃i:Nat,i<=2/\m=2-i/\s=((g.1.length:Int),[a1,a2],(2:Int),(i:Int),g,(),(),(),(0,0,()),(r.1,r.2.1,r.2.2.1,()),(),(),w64 (0+1),(),(),w64 (w64 (0+1)+1))/\∀j:Nat,j<i->∀x,[a1,a2][j]?=some x->0<=x/\x<(g.1.length:Int)) 2 waa ⟨0,by omega,by rfl,rfl,λj h=>by omega⟩ λm s hI ny hny=>?_;obtain⟨i,hi,hmi,hs,hok⟩:=hI;subst hs;dsimp only;refine wab (λcl=>?_) λcl=>?_
  ·have cl:=wci cl;have hi2:i<[a1,a2].length:=by grind
   have hxi:[a1,a2][i]?=some ([a1,a2][i]'hi2):=wch hi2;refine wac _ (atN hi2) ?_;generalize [a1,a2][i]'hi2=x at hxi;refine Tt.J (λs=>∃t:Bool,s=((g.1.length:Int),[a1,a2],(2:Int),(i:Int),t,g,(),(),(),(0,0,()),(r.1,r.2.1,r.2.2.1,()),(),(),w64 (0+1),(),(),w64 (w64 (0+1)+1))/\(t=false↔0<=x/\x<(g.1.length:Int))) (λnz2 hnz2=>?_) λs hI=>?_
   ·refine Tt.b1 (wab (λc2=>hnz2 _ ⟨_,rfl,?_⟩) λc2=>hnz2 _ ⟨_,rfl,?_⟩)
    ·grind
    grind
   obtain⟨t,hs,ht⟩:=hI;subst hs;dsimp only;refine wab (λc3=>?_) λc3=>?_
   ·have hnT:¬ziz g r.2.2.1 a1 a2:=λh=>by
     rw[ht.2 (jdy h i x hxi)]at c3;cases c3
    exact(hnz _ rfl).fst
   ·refine Tt.b1 ?_;rw[wI (by omega) (by omega)];refine hny (2-(i+1)) _ (by omega) ⟨i+1,by omega,rfl,rfl,λj hj y hy=>?_⟩;by_cases e:j=i
    ·subst e;rw[hxi]at hy;cases hy;exact ht.1 c3
    ·exact hok j (by omega) y hy
  ·have cl:=wcj cl;have hTk:ziz g r.2.2.1 a1 a2:=⟨hdf,hok 0 (by omega) a1 rfl,hok 1 (by omega) a2 rfl⟩
   exact absurd hTk hnT
 ·have hTk:ziz g r.2.2.1 a1 a2:=we3 λh=>by grind
  have hsz:=smallT (k3 hTk);obtain⟨hD,hM,_⟩:=hsz;refine Tt.bind (Tt.call (jif h1.1 h1.2.1) waa) λrw1 hrw1=>?_;rw[hrw1];refine wac _ (sm7 h1.2.2) (Tt.bind (Tt.call (znu a2 hD hM) waa) λld hld=>?_);rw[hld];refine Tt.bind (Tt.call (jws hD hM _ a1 a2 _ _ _) waa) λs0 hs0=>?_;obtain⟨sp,hsp,hs0⟩:=hs0;subst hs0;dsimp only;refine Tt.bind (Tt.call (jwj hD hM _ (zap _ _ _) a1 a2 hsp) waa) λs1 hs1=>?_;obtain⟨dp,bad,hst,hs1⟩:=hs1;subst hs1;dsimp only;have hst0:=hst;generalize hbad:bad=bad0 at hst0;rw[hbad]at hst;clear hbad;refine Tt.b1 (Tt.bind (Tt.call (z1v hD hM (hT1 hTk) hst) waa) λk8 hk8=>?_);rw[hk8];refine Tt.b1 (wah (wdf (by unfold zew;simp)) ?_);refine Tt.J (λs=>s.1 = !bad0) (λnz hnz=>?_) λs hs=>?_
  rotate_left
  ·obtain⟨b0,b1,b2,b3,b4,b5,b6,b7,b8,b9,c0,c1,c2⟩:=s;dsimp only at hs⊢;refine Tt.bind (Tt.call (zy2 hD hM (hT1 hTk) hst) waa) λc4 h4=>?_;rw[h4,hs];exact wah (by simp) (Tt.bind (Tt.call zhs waa) λc5 h5=>hnx _ h5)
  refine wab (λc=>?_) λc=>?_
  ·have hnT:¬ziz g r.2.2.1 a1 a2:=λh=>by
    have h:df0 r.2.2.1=true:=h.1;have c:(!df0 r.2.2.1)=true:=c;rw[h]at c;cases c
   exact absurd hTk hnT
  have hdf:df0 r.2.2.1=true:=by
   have c:(!df0 r.2.2.1)=false:=c;cases h:df0 r.2.2.1 with
   |true=>rfl
   |false=>rw[h]at c;cases c
  clear c;refine Tt.bind (Tt.call hO waa) λs7 h7=>?_;rw[h7];refine Tt.loop (λm s=>∃i:Nat,i<=2/\m=2-i/\s=((g.1.length:Int),[a1,a2],(2:Int),(i:Int),g,(),(),(),(0,0,()),(r.1,r.2.1,r.2.2.1,()),(),(),w64 (0+1),(),(),w64 (w64 (w64 (0+1)+1)+1))/\∀j:Nat,j<i->∀x,[a1,a2][j]?=some x->0<=x/\x<(g.1.length:Int)) 2 waa ⟨0,by omega,by rfl,rfl,λj h=>by omega⟩ λm s hI ny hny=>?_;obtain⟨i,hi,hmi,hs,hok⟩:=hI;subst hs;dsimp only;refine wab (λcl=>?_) λcl=>?_
  ·have cl:=wci cl;have hi2:i<[a1,a2].length:=by show i<2;omega
   have hxi:[a1,a2][i]?=some ([a1,a2][i]'hi2):=wch hi2;refine wac _ (atN hi2) ?_;generalize [a1,a2][i]'hi2=x at hxi;refine Tt.J (λs=>∃t:Bool,s=((g.1.length:Int),[a1,a2],(2:Int),(i:Int),t,g,(),(),(),(0,0,()),(r.1,r.2.1,r.2.2.1,()),(),(),w64 (0+1),(),(),w64 (w64 (w64 (0+1)+1)+1))/\(t=false↔0<=x/\x<(g.1.length:Int))) (λnz2 hnz2=>?_) λs hI=>?_
   ·refine Tt.b1 (wab (λc2=>hnz2 _ ⟨_,rfl,?_⟩) λc2=>hnz2 _ ⟨_,rfl,?_⟩)
    ·have c2:=wci c2;exact⟨λh=>(by cases h),λh=>(by omega)⟩
    ·have c2:=wcj c2;rw[decide_eq_false_iff_not];omega
   obtain⟨t,hs,ht⟩:=hI;subst hs;dsimp only;refine wab (λc3=>?_) λc3=>?_
   ·have hnT:¬ziz g r.2.2.1 a1 a2:=λh=>by
     rw[ht.2 (jdy h i x hxi)]at c3;cases c3
    exact absurd hTk hnT
   ·refine Tt.b1 ?_;rw[wI (by omega) (by omega)];refine hny (2-(i+1)) _ (by omega) ⟨i+1,by omega,rfl,rfl,λj hj y hy=>?_⟩;by_cases e:j=i
    ·subst e;rw[hxi]at hy;cases hy;exact ht.1 c3
    ·exact hok j (by omega) y hy
  ·have cl:=wcj cl;have hTk:ziz g r.2.2.1 a1 a2:=⟨hdf,hok 0 (by omega) a1 rfl,hok 1 (by omega) a2 rfl⟩
   refine Tt.bind (Tt.call (jif h1.1 h1.2.1) waa.fst) λrw1 hrw1=>?_;rw[hrw1];refine wac _ (sm7 h1.2.2) (Tt.bind (Tt.call (znu a2 hD hM) waa.fst) λld hld=>?_);rw[hld];refine Tt.bind (Tt.call (jws hD hM _ a1 a2 _ _ _) waa.fst) λs0 hs0=>?_;obtain⟨sp,hsp,hs0⟩:=hs0;subst hs0;dsimp only;refine Tt.bind (Tt.call (jwj hD hM _ (zap _ _ _) a1 a2 hsp) waa.fst) λs1 hs1=>?_;obtain⟨dp,bad,hst,hs1⟩:=hs1;subst hs1;dsimp only;refine(hnz _ ?_).fst;show(!bad) = !bad0;cases bad with
   |true=>rw[hst0.bad37.2 (hst.bad37.1 rfl)]
   |false=>
    cases h:bad0 with
    |false=>rfl
    |true=>have:=hst.bad37.2 (hst0.bad37.1 h);cases this
theorem TouchTells_tot(g:jb)(d e:Int)(k:jmn g)(l:(∀x∈g.1,x.1.length<=9223372036854775807)/\(∀x∈g.2.1,x.length<=9223372036854775807)/\∀x∈g.2.2.1,x.2.1.length<=9223372036854775807)(m:∀t∈g.1,∀x∈t.2.1,zeu x.2.1)(o:∀x∈g.2.2.1,x.2.1.length*32<=140737488355328):Tn (λu=>Qt u g d e) (λb=>b=true):=by
 obtain⟨b,c,a⟩:=(jdc g k).val;cases b with
 |false=>
  unfold Qt;refine Waj c waa λb a=>?_;subst a;exact wah rfl (Waj zhs waa λr q=>Tt.pure q)
 |true=>
 have a:=a rfl;obtain⟨r,i,j,f,v,h⟩:=jf6 g a l m;have w:=a.t;have y:=a.r;have z:=a.p;have A:=a.n;exact jd7 c (jpo g ⟨λx s=>by have:=z0d s;omega,⟨by omega,by omega,by omega⟩,o⟩) i j f h
def setOk_of2{s:Wb}(h:∀x∈s.l,OkI .u64 x):zeu s:=λk=>by by_cases a:k<s.l.length;{have e:s.l.getD k 0=s.l[k]:=X;rw[e];exact OkI.u64 (h _ (wcm a))};grind
def big47{n b:Nat}(h:n*b<=reachBytes)(e:b=32):n*32<=140737488355328:=by subst e;exact wdv h Wah
end
end Go.Proofs.YtigdmmgklieofaaGreat.T
