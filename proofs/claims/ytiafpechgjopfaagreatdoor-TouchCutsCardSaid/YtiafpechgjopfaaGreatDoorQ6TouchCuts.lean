
import Derived.Test.YtiafpechgjopfaaGreatDoorQ5TouchCuts

namespace Go.Proofs.YtiafpechgjopfaaGreatDoor.T
noncomputable section
open _root_.Go.Proofs.Tryz
set_option maxRecDepth 100000
set_option maxHeartbeats 8000000
set_option linter.unusedVariables false
set_option linter.unusedSimpArgs false
set_option linter.defProp false
open List (replicate range)
open Go Go.RowKit L
def z31(l:Wa)(b:Nat)(e:l.length<=1000000)(n:b<=1000000)(h:∀x∈l,0<=x/\x<=1000000):Tn (λj=>Yy j l (b:Int)) (λr=>r=l.map λx=>x+(b:Int)):=by unfold Yy;refine Tt.b1 (wac _ (mkN e U) ?_);refine Tt.loop (λm s=>∃k out,k<=l.length/\m=l.length-k/\s=(l,(b:Int),(l.length:Int),(k:Int),out)/\out.length=l.length/\out.take k=(l.take k).map λx=>x+(b:Int)) l.length waa ⟨0,_,U,Wab,rfl,V,rfl⟩ λm s⟨k,out,o,p,f,q,g⟩ t d=>?_;subst f;dsimp only;refine wad (λc=>?_) (λc=>Tt.pure ?_);{have a:k<l.length:=U;have i:=h _ (wcm a);refine Tt.at a (waj U (wac _ (zr _ U) (wai ?_)));rw[wI U U];refine d (l.length-(k+1)) _ U ⟨k+1,out.set k (l[k]+b),U,rfl,rfl,X,?_⟩;rw[wcp a,wdb,<- g,wcp X];congr 1;{rw[List.take_set_of_le U]};simp};grind
def jcr(l:Wa)(b:Nat)(n:l.length<=1000000)(i:b<=1000000)(f:∀x∈l,0<=x/\x<=1000000):Tn (λh=>Y2 h l (b:Int)) (λr=>r=l.map λx=>x+(b:Int)):=by unfold Y2;refine Tt.loop (λm s=>∃k,k<=l.length/\m=l.length-k/\s=(l,(b:Int),(k:Int),(l.take k).map λx=>x+(b:Int))) l.length waa ⟨0,U,Wab,rfl⟩ λm s⟨k,j,o,e⟩ p d=>?_;subst e;dsimp only;refine wad (λc=>?_) (λc=>Tt.pure ?_);{have a:k<l.length:=U;have g:=f _ (wcm a);refine Tt.at a (wac _ (yp X U) (wai ?_));rw[wI U U];refine d (l.length-(k+1)) _ U ⟨k+1,U,rfl,?_⟩;rw[wcp a,wdb];rfl};grind
def Yq(n:jl)(t:Nat)(l:List jh)(j:Nat):jl:=
 (n.1++(Ja l).take j,n.2.1++replicate j (t:Int),n.2.2.1++(range j).map (λ(i:Nat)=>decide ((i:Int)∈vn (qr l) 0)),n.2.2.2.1++(range j).map (λ(i:Nat)=>(z0k (qr l) i).map λx=>x+(n.1.length:Int)),n.2.2.2.2.1,())
def zrq(n:jl)(t:Nat)(l:List jh):jl:=
 let m:=Yq n t l (jv (qr l))
 (m.1,m.2.1,m.2.2.1,m.2.2.2.1,n.2.2.2.2.1++(qj (qr l) 0).map (λx=>x+(n.1.length:Int)),())
def Zb(l:List jw):Nat->jl
 |0=>([],[],[],[],[],())
 |k+1=>zrq (Zb l k) k (l.getD k ([],[],0,())).2.1
def zmq{l:Wam jw}{k:Nat}(a:k<l.length):Zb l (k+1)=zrq (Zb l k) k (l[k]).2.1:=by show zrq (Zb l k) k (l.getD k ([],[],0,())).2.1=_;grind
structure NetI(k:Nat)(n:jl):Prop where
 o:n.2.1.length=n.1.length
 l:n.2.2.1.length=n.1.length
 f:n.2.2.2.1.length=n.1.length
 ob:∀x∈n.2.1,0<=x/\x<(k:Int)
 fr:∀x∈n.2.2.2.1,RN n.1.length x/\x.length<=512
 fi:RN n.1.length n.2.2.2.2.1
def jhx{l:Wa}(b:Int)(h:jx l):jx (l.map λx=>x+b):=by unfold jx at h⊢;grind
def joq{l:Wa}{n b m:Nat}(h:RN n l)(hm:b+n<=m):RN m (l.map λx=>x+(b:Int)):=⟨jhx _ h.r,λx a=>by
 obtain⟨y,c,rfl⟩:=wc6.1 a;have:=h.b y c;omega⟩
def zym{n:jl}{t:Nat}{l:Wam jh}{j:Nat}(a:j<=(Ja l).length):(Yq n t l j).1.length=n.1.length+j:=by unfold Yq;grind
def NetI.next{k:Nat}{n:jl}(h:NetI k n){l:Wam jh}(j:Y3 l=0):NetI (k+1) (zrq n k l)/\(zrq n k l).1.length=n.1.length+(Ja l).length:=by
 have e:=zio j;have q:=zfw j;have c:(zrq n k l).1.length=n.1.length+(Ja l).length:=by{show(Yq n k l (jv (qr l))).1.length=_;rw[zym U,e]};refine⟨⟨?_,?_,?_,λx a=>?_,λx a=>?_,?_⟩,c⟩;{rw[c];simp[zrq,Yq,h.o,e]};{rw[c];simp[zrq,Yq,h.l,e]};{rw[c];simp[zrq,Yq,h.f,e]}
 .simp[zrq,Yq,wcu,List.mem_replicate]at a;rcases a with a|⟨_,rfl⟩
  {have:=h.ob x a;omega};omega
 .simp[zrq,Yq,wcu,wc6,weq]at a;rcases a with a|⟨i,t,rfl⟩
  {obtain⟨d,p⟩:=h.fr x a;exact⟨d.up U,p⟩};.have g:=z84 (qr l) i;refine⟨joq g U,?_⟩;rw[wc0];have:=g.len;omega
 .have d:=h.fi;have g:=joq (b:=n.1.length) (m:=(zrq n k l).1.length) (zen (qr l) 0 (jv (qr l)) U) U;show RN _ (n.2.2.2.2.1++(qj (qr l) 0).map (λx=>x+(n.1.length:Int)));refine⟨?_,λx a=>?_⟩;{unfold jx;rw[wel];refine⟨d.r,jhx _ (V6 (qr l) 0).1,λx a y s=>?_⟩;obtain⟨z,hz,rfl⟩:=wc6.1 s;have:=d.b x a;have:=(V6 (qr l) 0).2 z hz;omega};.rcases wcu.1 a with a|a;{exact(d.up U).b x a};.exact g.b x a
def zmn{l:Wam jw}(b:∀t∈l,Y3 t.2.1=0):∀k,k<=l.length->NetI k (Zb l k)/\(Zb l k).1.length<=zfi (l.take k)
 |0,_=>⟨⟨rfl,rfl,rfl,λx e=>by trivial,λx e=>by trivial,RN.nil _⟩,by simp[Zb]⟩
 |k+1,j=>by
  obtain⟨c,f⟩:=zmn b k U;rw[zmq U,z4c U];have a:=b _ (wcm (show k<l.length by omega));obtain⟨d,g⟩:=c.next a
  refine⟨d,?_⟩;have h:=zio a;have i:=zrv (zxg a);have:=(V8 a).2;omega
def z5s{l:Wam jw}{P:We->Prop}(b:∀t∈l,∀x∈t.2.1,P x.2.1):∀k,k<=l.length->∀s∈(Zb l k).1,P s
 |0,_,s,a=>by trivial
 |k+1,c,s,a=>by rw[zmq U]at a;simp[zrq,Yq,wcu]at a;rcases a with a|a;{exact z5s b k U s a};.have a:=wfd a;unfold Ja at a;grind
def z4f{n:jl}{t:Nat}{l:Wam jh}{j:Nat}(a:j<(Ja l).length):Yq n t l (j+1)=((Yq n t l j).1++[(Ja l)[j]],(Yq n t l j).2.1++[(t:Int)],(Yq n t l j).2.2.1++[decide ((j:Int)∈vn (qr l) 0)],(Yq n t l j).2.2.2.1++[(z0k (qr l) j).map λx=>x+(n.1.length:Int)],n.2.2.2.2.1,()):=by unfold Yq;simp only[List.range_succ,wdb,wc7,wea,wc2];rw[wcp a,List.replicate_succ']
def jmu{n:jl}{t:Nat}{l:Wam jh}:Yq n t l 0=n:=by unfold Yq;simp
def jwn(l:Wam jw)(hl:l.length<=50)(C:∀t∈l,Y3 t.2.1=0)(hN:zfi l<=1000):Tn (λnn=>zeq nn l) (λr=>r=Zb l l.length):=by
 unfold zeq;refine Tt.loop (λm s=>∃(k:Nat)(w:W9)(y:Wa)(z:Wb)(A:W7)(B:Wa),k<=l.length/\m=l.length-k/\s=(l,(l.length:Int),(k:Int),w,y,z,A,B,(Zb l k).1,(Zb l k).2.1,(Zb l k).2.2.1,(Zb l k).2.2.2.1,(Zb l k).2.2.2.2.1)) l.length waa ⟨0,_,_,_,_,_,U,Wab,rfl⟩ λm s⟨k,w,y,z,A,B,T,hm,N⟩ nx L=>?_;subst N;dsimp only;refine wad (λc=>?_) (λc=>?_)
 .have d:k<l.length:=U;have a:=C _ (wcm d);obtain⟨q,Z⟩:=zmn C k T;have i:=(zmn C (k+1) d).2;have e:=zmq d;have v:∀{j},j<=l.length->zfi (l.take j)<=1000:=λ{j}S=>by
   refine wdt ?_ hN;have:zfi l=zfi (l.take j)+zfi (l.drop j):=by
    conv=>lhs;rw[<- wd2 j l]
    unfold zfi;grind
   omega
  have J:=v T;have Q:=v d;have h:=(q.next a).2;rw[e,h]at i;refine Tt.at d (Tt.b1 ?_);generalize l[k]=t at a e h i⊢;have a9:=zio a;have a7:=zfw a;refine Waj (jj6 _ a) waa.fst λla I=>?_;subst I;refine Waj (jj9 _ a) waa.fst λse O=>?_;subst O;generalize hn:Zb l k=n at q Z h e i⊢;refine Tt.loop (λm s=>∃j,j<=(Ja t.2.1).length/\m=(Ja t.2.1).length-j/\s=(l,(k:Int),t.2.1,(n.1.length:Int),vn (qr t.2.1) 0,(l.length:Int),(k:Int),Ja t.2.1,((Ja t.2.1).length:Int),(j:Int),w,y,z,A,B,(Yq n k t.2.1 j).1,(Yq n k t.2.1 j).2.1,(Yq n k t.2.1 j).2.2.1,(Yq n k t.2.1 j).2.2.2.1,n.2.2.2.2.1)) (Ja t.2.1).length waa.fst ⟨0,U,Wab,by rw[jmu];rfl⟩ λm s⟨j,S,hm,N⟩ ny M=>?_;subst N;dsimp only;have a1:=zym (n:=n) (t:=k) S;have a2:(Yq n k t.2.1 j).2.1.length=n.1.length+j:=by{simp[Yq,q.o]};have a3:(Yq n k t.2.1 j).2.2.1.length=n.1.length+j:=by{simp[Yq,q.l]};have a4:(Yq n k t.2.1 j).2.2.2.1.length=n.1.length+j:=by{simp[Yq,q.f]};refine wad (λc=>?_) (λc=>?_);{have d:j<(Ja t.2.1).length:=U;have u:=zju (qr t.2.1) 0 (jv (qr t.2.1)) U;have a5:=u.len;have g:=z84 (qr t.2.1) j;have F:=g.len;refine Tt.at d (wac _ (yp X U) (wac _ (yp X U) ?_));refine Waj (Has_ex _ _ U u.r) waa.fst.fst λr hr=>?_;subst hr;refine wac _ (yp X U) (Waj (jbv _ a j U) waa.fst.fst λf D=>?_);subst D;refine Waj (z31 _ n.1.length U U λx P=>by have:=g.b x P;omega) waa.fst.fst λY p=>?_;subst p;refine wac _ (yp X U) (wai ?_);exact M ((Ja t.2.1).length-(j+1)) _ U ⟨j+1,U,rfl,by rw[z4f d];rfl⟩};.have G:j=jv (qr t.2.1):=U;have g:=zen (qr t.2.1) 0 (jv (qr t.2.1)) U;have F:=g.len;have a8:=q.fi.len;refine Waj (jgj _ a) waa.fst.fst λf D=>?_;subst D;refine Waj (z31 _ n.1.length X U λx P=>by have:=g.b x P;omega) waa.fst.fst λY p=>?_;subst p;have R:(qj (qr t.2.1) 0).length<=512:=X;refine wac _ (yp X U) (wai ?_);exact(L (l.length-(k+1)) _ U ⟨k+1,_,_,_,_,_,U,rfl,by rw[e,G];rfl⟩).fst
 .have H:k=l.length:=X;rw[H];exact Tt.pure rfl
def jf5(l:Wam jw)(hl:l.length<=50)(C:∀t∈l,Y3 t.2.1=0)(hN:zfi l<=1000):Tn (λnn=>zcm nn l) (λr=>r=Zb l l.length):=by
 unfold zcm;refine Tt.loop (λm s=>∃(k:Nat)(w:W9)(y:Wa)(z:Wb)(A:W7)(B:Wa),k<=l.length/\m=l.length-k/\s=(l,(k:Int),w,y,z,A,B,(Zb l k).1,(Zb l k).2.1,(Zb l k).2.2.1,(Zb l k).2.2.2.1,(Zb l k).2.2.2.2.1)) l.length waa ⟨0,_,_,_,_,_,U,Wab,rfl⟩ λm s⟨k,w,y,z,A,B,Y,hm,O⟩ nx M=>?_;subst O;dsimp only;refine wad (λc=>?_) (λc=>?_)
 .have d:k<l.length:=U;have a:=C _ (wcm d);obtain⟨u,J⟩:=zmn C k Y;have p:=(zmn C (k+1) d).2;have e:=zmq d;have v:∀{j},j<=l.length->zfi (l.take j)<=1000:=λ{j}T=>by
   refine wdt ?_ hN;have:zfi l=zfi (l.take j)+zfi (l.drop j):=by
    conv=>lhs;rw[<- wd2 j l]
    unfold zfi;rw[wdb,List.sum_append]
   omega
  have a0:=v Y;have R:=v d;have i:=(u.next a).2;rw[e,i]at p;have g:=atN d;refine Tt.b1 (wac _ g ?_);generalize l[k]=t at a e i p g⊢;have b0:=zio a;have a8:=zfw a;refine Waj (z1f _ a) waa.fst λse P=>?_;subst P;refine wac _ g (Waj (z8s _ a) waa.fst λla I=>?_);subst I;generalize hn:Zb l k=n at u J i e p⊢;refine Tt.loop (λm s=>∃j,j<=(Ja t.2.1).length/\m=(Ja t.2.1).length-j/\s=(l,(k:Int),(n.1.length:Int),Ja t.2.1,vn (qr t.2.1) 0,(j:Int),w,y,z,A,B,(Yq n k t.2.1 j).1,(Yq n k t.2.1 j).2.1,(Yq n k t.2.1 j).2.2.1,(Yq n k t.2.1 j).2.2.2.1,n.2.2.2.2.1)) (Ja t.2.1).length waa.fst ⟨0,U,Wab,by rw[jmu];rfl⟩ λm s⟨j,T,hm,O⟩ ny N=>?_;subst O;dsimp only;have a1:=zym (n:=n) (t:=k) T;have a2:(Yq n k t.2.1 j).2.1.length=n.1.length+j:=by{simp[Yq,u.o]};have a3:(Yq n k t.2.1 j).2.2.1.length=n.1.length+j:=by{simp[Yq,u.l]};have a4:(Yq n k t.2.1 j).2.2.2.1.length=n.1.length+j:=by{simp[Yq,u.f]};refine wad (λc=>?_) (λc=>?_);{have d:j<(Ja t.2.1).length:=U;have L:=zju (qr t.2.1) 0 (jv (qr t.2.1)) U;have a6:=L.len;have h:=z84 (qr t.2.1) j;have F:=h.len;refine Tt.at d (wac _ (yp X U) (wac _ (yp X U) ?_));refine Waj (zdf _ _ X) waa.fst.fst λr hr=>?_;subst hr;refine wac _ (yp X U) (wac _ g ?_);refine Waj (zyo _ a j U) waa.fst.fst λf D=>?_;subst D;refine Waj (jcr _ n.1.length U U λx Q=>by have:=h.b x Q;omega) waa.fst.fst λZ q=>?_;subst q;refine wac _ (yp X U) (wai ?_);exact N ((Ja t.2.1).length-(j+1)) _ U ⟨j+1,U,rfl,by rw[z4f d];rfl⟩};.have G:j=jv (qr t.2.1):=U;have h:=zen (qr t.2.1) 0 (jv (qr t.2.1)) U;have F:=h.len;have a9:=u.fi.len;refine wac _ g (Waj (z12 _ a) waa.fst.fst λf D=>?_);subst D;refine Waj (jcr _ n.1.length X U λx Q=>by have:=h.b x Q;omega) waa.fst.fst λZ q=>?_;subst q;have S:(qj (qr t.2.1) 0).length<=512:=X;refine wac _ (yp X U) (wai ?_);exact(M (l.length-(k+1)) _ U ⟨k+1,_,_,_,_,_,U,rfl,by rw[e,G];rfl⟩).fst
 .have H:k=l.length:=X;rw[H];exact Tt.pure rfl
def netK_R{l:Wam jw}(c:∀t∈l,Y3 t.2.1=0)(d:zfi l<=1000):z8z (Zb l l.length)/\zkx (zfi l) 60000 (Zb l l.length)/\∀x∈(Zb l l.length).2.1,0<=x/\x<(l.length:Int):=by obtain⟨h,b⟩:=zmn c l.length (wcs _);rw[wc8]at b;refine⟨⟨⟨h.o,h.l,h.f,h.fi,λx a=>(h.fr x a).1⟩,λx a=>(h.ob x a).1⟩,⟨b,?_,?_,?_,λx a=>(h.fr x a).2,?_⟩,h.ob⟩;{rw[h.o];omega};{rw[h.l];omega};{rw[h.f];omega};.have:=h.fi.len;omega
def jmp{E:Nat->Nat->Bool}(h:Eqv E){k:Nat}(a:k<256):(cls E k<(qu E k).length/\(qu E (k+1)).length=(qu E k).length)\/(cls E k=(qu E k).length/\(qu E (k+1)).length=(qu E k).length+1):=by obtain⟨b,c⟩:=zyv h a;grind
def zl9{d:jd}{i:Nat}(hi:i<d.2.2.1.length){c:Nat}(a:c<(d.2.2.1[i]).length):nxt d i (c:Int)=(d.2.2.1[i])[c]:=by show at' (at' d.2.2.1 (i:Int)) (c:Int)=_;rw[vk hi,vk a]
def wrI{z:Int}(a : -9223372036854775808<=z)(b:z<=9223372036854775807):wr .i64 z=z:=zbs a b
def z3h{E:Nat->Nat->Bool}(h:Eqv E){a:Wd}(j:ClsAt E a 256):Tn (λp=>zd5 p a) (λr=>r=true):=by unfold zd5;refine Tt.loop (λm s=>∃k,k<=256/\m=256-k/\s=(((qu E k).length:Int),(k:Int),a)) 256 waa ⟨0,U,Wab,rfl⟩ λm s⟨k,q,t,g⟩ u f=>?_;subst g;dsimp only;refine wad (λc=>?_) λc=>Tt.pure rfl;have b:k<256:=U;have d:atL a.l (k:Int)=some (cls E k:Int):=Qg U (by simpa using j.c k b);have o:=zeb E k;have n:=jmp h b;refine Tt.J (λs=>s=(((qu E (k+1)).length:Int),(k:Int),a)) (λv e=>?_) λs g=>?_;{refine waj b (wac _ d ?_);rw[wrI U U];refine wae (wc3 U) (waj b (wac _ d ?_));rw[wrI U U];refine wad (λi=>Tt.b1 (e _ ?_)) λi=>e _ ?_;{rw[wI U U];grind};grind};.subst g;dsimp only;refine wai ?_;exact f (256-(k+1)) _ U ⟨k+1,U,rfl,rfl⟩
def zns{E:Nat->Nat->Bool}(h:Eqv E){a:Wd}(f:ClsAt E a 256):Tn (λn=>Yx n a) (λr=>r=((qu E 256).length:Int)):=by unfold Yx;refine Tt.loop (λm s=>∃k,k<=256/\m=256-k/\s=(((qu E k).length:Int),(k:Int),a)) 256 waa ⟨0,U,Wab,rfl⟩ λm s⟨k,o,p,j⟩ q e=>?_;subst j;dsimp only;refine wad (λc=>?_) λc=>Tt.pure ?_;{have b:k<256:=U;have d:atL a.l (k:Int)=some (cls E k:Int):=Qg U (by simpa using f.c k b);have i:=zeb E k;have g:=jmp h b;refine waj b (wac _ d (Tt.b1 (Tt.b1 ?_)));rw[wrI U U,wI U U,wI U U];refine e (256-(k+1)) _ U ⟨k+1,U,rfl,?_⟩;grind};grind
def zn2{d:jd}{E:Nat->Nat->Bool}(h:Eqv E)(o:ClsAt E d.1 256)(L:d.2.1=((qu E 256).length:Int))(w:DSz d)(hm:MOk d)(y:∀x∈d.2.2.2.1, -1<=x):Tn (λB=>yb B d) (λr=>r=true):=by have I:=zeb E 256;have M:=hm.n0;have t:=hm.lab;have G:=w.n;unfold yb;refine Tt.J (λs=>s=(false,d)) (λC i=>?_) λs b=>?_;{refine Waj (z3h h o) waa λr l=>?_;subst l;refine Tt.b1 (wae rfl (Waj (zns h o) waa λr l=>?_));subst l;refine wae (wc3 U) (wae (wc3 U) (i _ ?_));grind};subst b;refine wae rfl (Tt.loop (λm s=>∃k,k<=d.2.2.1.length/\m=d.2.2.1.length-k/\s=((k:Int),d)) d.2.2.1.length waa ⟨0,U,U,rfl⟩ λm s⟨k,F,A,b⟩ C i=>?_);subst b;dsimp only;refine wad (λc=>?_) λc=>Tt.pure rfl;have g:k<d.2.2.1.length:=U;have a:=atN g;have p:((d.2.2.1[k]).length:Int)=d.2.1:=by{have:=hm.row k U U;rw[vk g]at this;omega};have e:∀c(o:c<(d.2.2.1[k]).length), -1<=(d.2.2.1[k])[c]/\(d.2.2.1[k])[c]<d.2.2.1.length:=λc o=>by{have : -1<=nxt d k (c:Int)/\nxt d k (c:Int)<d.2.2.1.length:=hm.nx k c U U U U;rw[zl9 g o]at this;omega};refine Tt.J (λs=>s=((k:Int),false,d)) (λD j=>?_) λs b=>?_;{refine wac _ a (Tt.b1 (wae (wc3 U) (Tt.at (show k<d.2.2.2.1.length by omega) (j _ ?_))));have:=y _ (wcm (show k<d.2.2.2.1.length by omega));rw[wc3 U]};subst b;refine wae rfl ?_;dsimp only;generalize d.2.2.1[k]=row at a p e;refine Tt.loop (λm s=>∃c,c<=row.length/\m=row.length-c/\s=((k:Int),(c:Int),d)) row.length waa.fst ⟨0,U,Wab,rfl⟩ λm s⟨c,v,z,b⟩ D j=>?_;subst b;dsimp only;refine wad (λu=>?_) λu=>?_;{have f:c<row.length:=U;have H:=e c f;refine Tt.J (λs=>s=((k:Int),(c:Int),false,d)) (λN q=>?_) λs b=>?_;{refine wac _ a (Tt.at f (Tt.b1 (wae (wc3 U) (wac _ a (Tt.at f (q _ ?_))))));grind};.subst b;refine wae rfl (Tt.b1 ?_);dsimp only;rw[wI U U];exact j (row.length-(c+1)) _ U ⟨c+1,U,rfl,rfl⟩};.refine wai ?_;exact(i (d.2.2.1.length-(k+1)) _ U ⟨k+1,U,rfl,rfl⟩).fst
def zky{d:jd}(hR:Tn (λnn=>yb nn d) (λr=>r=true))(hd:DSz d)(hm:MOk d):Tn (λnn=>Q1 nn d) (λr=>r=zao d.2.2.1.length (dE d) (λi=>i=0)):=by
 have M:0<d.2.2.1.length:=hm.n0;have hn:=hd.n;have hw:=hm.w;have d7:0<=d.2.1:=hw.1;have d8:d.2.1<=256:=hw.2;unfold Q1;refine Waj hR waa λr hr=>?_;subst hr;refine wae rfl (Tt.b1 (wac _ (mkN U U) (wac _ (yj (by simpa using M)) (wac _ (zr (k:=0) true (by simpa using M)) ?_))));generalize hN:d.2.2.1.length=N at M hn⊢;have a7:onB ((replicate N false).set 0 true) 0:=(Qb (by simpa using M)).2 (.inl rfl);have c0:offs ((replicate N false).set 0 true)+1=offs (replicate N false):=zq2 (by simp[M]);have S:=z7n (replicate N false);rw[wci]at S;have b6:∀i,onB ((replicate N false).set 0 true) i->Rch (dE d) (λi=>i=0) i:=λi hi=>by{rcases(Qb (by simpa using M)).1 hi with h|h;{exact .base h.symm};.exact absurd h zxn};refine Tt.loop (λm s=>∃(k:Nat)(a:Wb),k<=N/\m=N-k/\s=((k:Int),d,a)/\a.length=N/\onB a 0/\(∀i,onB a i->Rch (dE d) (λi=>i=0) i)/\(a=zao N (dE d) (λi=>i=0)\/offs a+k<=N-1)) N waa ⟨0,_,U,U,rfl,V,a7,b6,.inr U⟩ λm s⟨k,a,hk,d4,A,ha,a3,a5,a4⟩ nx b2=>?_;subst A;dsimp only;rw[ha];refine wab (λc=>?_) λc=>Tt.pure ?_;rotate_left
 {grind};have c:=wcj c;refine Tt.loop (λm s=>∃(i:Nat)(b:Wb),i<=N/\m=N-i/\s=((k:Int),(i:Int),d,b)/\b.length=N/\LeB a b/\(∀i,onB b i->Rch (dE d) (λi=>i=0) i)/\(a=b->∀o,o<i->∀j,onB a o->dE d o j->onB a j)) N waa.fst ⟨0,a,U,U,rfl,ha,LeB.refl a,a5,λ_ o h=>U⟩ λm s⟨i,b,hi,d3,A,G,f,g,H⟩ ny b3=>?_;subst A;dsimp only;rw[G];refine wab (λP=>?_) λP=>?_
 .have P:=wcj P;have a9:i<N:=U;have I:i<d.2.2.1.length:=U;have F:=atN I;have Y:((d.2.2.1[i]).length:Int)=d.2.1:=by{have:=hm.row i U U;rw[vk (l:=d.2.2.1) I]at this;omega};have v:∀(c:Nat)(L:c<(d.2.2.1[i]).length),nxt d i c=(d.2.2.1[i])[c]:=λc L=>zl9 I L;have B:∀(c:Nat)(L:c<(d.2.2.1[i]).length), -1<=(d.2.2.1[i])[c]/\(d.2.2.1[i])[c]<d.2.2.1.length:=λc L=>by{have : -1<=nxt d i (c:Int)/\nxt d i (c:Int)<d.2.2.1.length:=hm.nx i c U U U U;rw[v c L]at this;exact this};generalize d.2.2.1[i]=row at F Y B v;refine Tt.loop (λm s=>∃(c:Nat)(b:Wb),c<=row.length/\m=row.length-c/\s=((k:Int),(i:Int),(c:Int),d,b)/\b.length=N/\LeB a b/\(∀i,onB b i->Rch (dE d) (λi=>i=0) i)/\(a=b->∀o,o<i->∀j,onB a o->dE d o j->onB a j)/\(a=b->∀O:Nat,O<c->∀j:Nat,nxt d i O=j->onB a j)) row.length waa.fst.fst ⟨0,b,U,U,rfl,G,f,g,H,λ_ O h=>U⟩ λm s⟨c,b,L,d2,A,G,f,g,H,c9⟩ nz b4=>?_;subst A;dsimp only;have R:i<b.length:=U;refine Tt.J (λs=>s=((k:Int),(i:Int),(c:Int),(b[i] && decide (c<row.length)),d,b)) (λnu u=>?_) λs A=>?_;{rw[G];refine wac _ (yj a9) (wac _ (atN R) (wab (λD=>u _ ?_) λD=>u _ ?_));{rw[D,weu];have:decide ((c:Int)<d.2.1)=decide (c<row.length):=by{rw[decide_eq_decide];omega};rw[this]};.rw[D];rfl};subst A;dsimp only;refine wab (λD=>?_) λD=>Tt.b1 ?_
  .simp only[wco,wc9]at D;obtain⟨b5,y⟩:=D;have hq:=B c y;have b0:=v c y;have T:onB b i:=by{unfold onB;rw[wch R,b5]};refine Tt.J (λs=>∃C,s=((k:Int),(i:Int),(c:Int),d,C)/\C.length=N/\LeB b C/\(∀i,onB C i->Rch (dE d) (λi=>i=0) i)/\∀j:Nat,nxt d i c=j->onB C j) (λnu u=>?_) λs⟨C,A,a6,t,Q,b9⟩=>?_
   .refine wac _ F (wac _ (atN y) (wab (λZ=>?_) λZ=>u _ ⟨b,rfl,G,LeB.refl b,g,λj p=>?_⟩))
    .have Z:=wcj Z;obtain⟨z,hz⟩:∃z:Nat,row[c]=(z:Int):=⟨(row[c]).toNat,U⟩
     have x:z<b.length:=U;refine wac _ F (wac _ (atN y) ?_);rw[hz];refine wac _ (yj x) (wac _ (zr true x) (u _ ⟨_,rfl,X,LeB.set x,λj p=>?_,λj p=>?_⟩));{rcases(Qb x).1 p with h|h;{subst h;exact .step (g i T) ⟨U,c,U,U,U⟩};grind};.rw[b0,hz]at p;exact(Qb x).2 (.inl U)
    grind
   .subst A;dsimp only;refine Tt.b1 ?_;rw[wI U U];refine b4 (row.length-(c+1)) _ U ⟨c+1,C,U,rfl,rfl,a6,f.trans t,Q,λe=>?_,λe O c8 j p=>?_⟩;{have:a=b:=f.antisymm (e▸t);grind};.have c6:a=b:=f.antisymm (e▸t);grind
  .rw[wI U U];refine(b3 (N-(i+1)) _ U ⟨i+1,b,U,rfl,rfl,G,f,g,λe o d1 j p hE=>?_⟩).fst;by_cases h:o=i;{subst h;obtain⟨h1,O,h0,h2,h3⟩:=hE;obtain⟨q,rfl⟩:=wdy h0;have h2:(q:Int)<d.2.1:=h2;have c7:b[o]=true:=by{rw[e]at p;unfold onB at p;grind};grind};grind
 .have P:=wck P;refine Tt.b1 ?_;rw[wI U U];have a1:Round (dE d) (λi=>i=0) a b:=⟨f,g,λe=>⟨λi hi=>X,λo j p hE=>H e o (by have:=jfq p;omega) j p hE⟩⟩
  exact(b2 (N-(k+1)) _ U ⟨k+1,b,U,rfl,rfl,G,f.2 0 a3,g,a1.next ha a4⟩).fst
def LbR(d:jd)(x:Int):Prop:=∃i:Nat,onB (zao d.2.2.1.length (dE d) (λi=>i=0)) i/\d.2.2.2.1[i]?=some x/\0<=x
def n1{a b c:Nat}(h:a<b-c):c<b:=U
def n2{o k j:Nat}(h:o<=k)(a:j<=o):j+1+(o-j)<=k+1:=U
def zzo(l:Wa)(hl:l.length<=1000):Tn (λnn=>zjh nn l) (λr=>jx r/\∀x,x∈r↔x∈l):=by
 unfold zjh;refine Tt.loop (λm s=>∃(k:Nat)(o:Wa),k<=l.length/\m=l.length-k/\s=(l,(k:Int),o)/\o.length<=k/\jx o/\∀x,x∈o↔x∈l.take k) l.length waa ⟨0,_,U,U,rfl,V,List.Pairwise.nil,V⟩ λm s⟨k,o,hk,hm,g,a1,e,d⟩ nx H=>?_;subst g;dsimp only;refine wab (λc=>?_) λc=>?_;rotate_left
 {have c:=wck c;have:k=l.length:=U;rw[this,wc8]at d;exact Tt.pure ⟨e,d⟩};have c:=wcj c;have u:k<l.length:=U;have p:∀x,x∈l.take (k+1)↔x∈l.take k\/x=l[k]:=λx=>by{rw[wcp u,wcu,wcr]};refine Tt.J (λs=>∃o,s=(l,(k:Int),o)/\o.length<=k+1/\jx o/\∀x,x∈o↔x∈l.take (k+1)) (λny z=>?_) λs⟨o,g,N,O,T⟩=>?_;rotate_left
 {subst g;dsimp only;refine Tt.b1 ?_;rw[wI U U];exact H (l.length-(k+1)) _ U ⟨k+1,o,U,rfl,rfl,N,O,T⟩};refine wac _ (atN u) ?_;generalize l[k]=v at p;refine Waj (zdf o v U) waa.fst λr hr=>?_;subst hr;refine wab (λn=>z _ ⟨o,rfl,U,e,λx=>?_⟩) λn=>?_;{have n:=wcj n;rw[d,p];exact⟨.inl,λh=>h.elim id λh=>h▸(d v).1 n⟩};have n:=wck n;refine Tt.loop (λm s=>∃(j:Nat),j<=o.length/\m=o.length-j/\s=(v,(j:Int),o,o.take j)/\∀y∈o.take j,y<v) o.length waa.fst ⟨0,U,U,rfl,V⟩ λm s⟨j,Q,Y,g,F⟩ nz I=>?_;subst g;dsimp only;refine Tt.J (λs=>∃b,s=(v,(j:Int),b,o,o.take j)/\(b=true↔∃h:j<o.length,o[j]<v)) (λnu w=>?_) λs⟨b,g,P⟩=>?_;{refine Tt.b1 (wab (λf=>?_) λf=>w _ ⟨false,rfl,⟨λh=>(by cases h),λh=>?_⟩⟩);{have f:=wcj f;have a:j<o.length:=U;refine wac _ (yj a) (wac _ (atN a) (w _ ⟨_,rfl,?_⟩));rw[wc9];exact⟨λh=>⟨a,h⟩,λ⟨_,h⟩=>h⟩};.have f:=wck f;obtain⟨h,_⟩:=h;omega};subst g;dsimp only;refine wab (λf=>?_) λf=>?_;{obtain⟨a,S⟩:=P.1 f;refine wac _ (yj a) (wac _ (atN a) (wac _ (yp W U) (Tt.b1 ?_)));rw[wI U U];have M:=wcp a;refine I (o.length-(j+1)) _ U ⟨j+1,U,rfl,V,λy C=>?_⟩;rw[M]at C;rcases wcu.1 C with h|h;{exact F y h};.rwa [wcr.1 h]}
 .have a0:∀y∈o.drop j,v<y:=λy C=>by{obtain⟨q,L,rfl⟩:=wei C;rw[List.getElem_drop];rw[List.length_drop]at L;have a:=n1 L;have N:¬o[j]<v:=λh=>by{rw[P.2 ⟨a,h⟩]at f;cases f};have O:o[j]≠v:=λh=>n (h▸wcm a);by_cases h:q=0;{subst h;simp only[wd9];omega};.have:=zq8 e (i:=j) (j:=j+q) U U;omega};refine wac _ (yp W U) ?_;have R:(o.take j).length=j:=by{simp[Q]};refine Tt.loop (λm s=>∃(q:Nat),j<=q/\q<=o.length/\m=o.length-q/\s=((q:Int),o,o.take j++[v]++(o.drop j).take (q-j))) (o.length-j) waa.fst.fst ⟨j,wcs _,Q,rfl,X⟩ λm s⟨q,D,L,Z,g⟩ nw G=>?_;subst g;dsimp only;refine wab (λt=>?_) λt=>?_;{have t:=wcj t;have A:q<o.length:=U;have B:(o.drop j).take (q+1-j)=(o.drop j).take (q-j)++[o[q]]:=by{rw[show q+1-j=(q-j)+1 from Nat.succ_sub D,wcp X,List.getElem_drop];grind};refine wac _ (yj A) (wac _ (atN A) (wac _ (yp X U) (Tt.b1 ?_)));rw[wI U U];exact G (o.length-(q+1)) _ U ⟨q+1,U,U,rfl,X⟩}
  .have t:=wck t;have:q=o.length:=U;have B:(o.drop j).take (q-j)=o.drop j:=wd8 X;rw[B];refine(Tt.fst (z _ ⟨_,rfl,X,?_,λx=>?_⟩)).fst;{unfold jx;rw[wc2,wel];have a3:(o.take j).Pairwise (· < ·):=we1 (List.take_sublist _ _) e;have a4:(o.drop j).Pairwise (· < ·):=we1 (List.drop_sublist _ _) e;grind}
   .rw[p,<- d];conv=>rhs;rw[<- wd2 j o]
    simp only[wcu,wcr];constructor;{rintro((h|h)|h);{exact .inl (.inl h)};{exact .inr h};.exact .inl (.inr h)};.rintro((h|h)|h);{exact .inl (.inl h)};{exact .inr h};.exact .inl (.inr h)
def zz5{d:jd}(G:Tn (λA=>yb A d) (λr=>r=true))(C:DSz d)(hm:MOk d):Tn (λA=>yv A d) (λr=>jx r/\∀x,x∈r↔LbR d x):=by have T:=C.n;have F:=hm.lab;unfold yv;refine Waj (zky G C hm) waa λr L=>?_;have M:r.length=d.2.2.1.length:=by{rw[L,ze8]};refine Tt.loop (λm s=>∃k l,k<=r.length/\m=r.length-k/\s=(r,(k:Int),d,l)/\l.length<=k/\∀x,x∈l↔∃i,i<k/\onB r i/\d.2.2.2.1[i]?=some x/\0<=x) r.length waa ⟨0,_,U,Wab,rfl,V,λx=>⟨λh=>X,λ⟨i,h,_⟩=>U⟩⟩ λm s⟨k,l,P,I,t,D,v⟩ Q y=>?_;subst t;dsimp only;refine wad (λc=>?_) λc=>?_;{have f:k<r.length:=U;have b:k<d.2.2.2.1.length:=U;refine Tt.J (λs=>∃l,s=(r,(k:Int),d,l)/\l.length<=k+1/\∀x,x∈l↔∃i,i<k+1/\onB r i/\d.2.2.2.1[i]?=some x/\0<=x) (λR o=>?_) λs⟨l,t,D,v⟩=>?_;{refine Tt.J (λs=>s=(r,(k:Int),(r[k] && decide (0<=d.2.2.2.1[k])),d,l)) (λS p=>?_) λs t=>?_;{refine Tt.at f (wab (λw=>Tt.at b (p _ ?_)) λw=>p _ ?_);{rw[w,weu]};.rw[w];rfl};.subst t;dsimp only;have u:∀{z:Wa},(∀x,x∈z↔x∈l\/(onB r k/\d.2.2.2.1[k]?=some x/\0<=x))->∀x,x∈z↔∃i,i<k+1/\onB r i/\d.2.2.2.1[i]?=some x/\0<=x:=λ{z}h x=>by{rw[h,v];constructor;{rintro(⟨i,j,a⟩|a);{exact⟨i,U,a⟩};.exact⟨k,U,a⟩};.rintro⟨i,j,a⟩;by_cases e:i=k;{subst e;exact .inr a};.exact .inl ⟨i,U,a⟩};refine wab (λg=>?_) λg=>o _ ⟨l,rfl,U,u λx=>⟨.inl,λh=>h.elim id λ⟨j,a,B⟩=>?_⟩⟩;{simp[wco,wc9]at g;refine Tt.at b (wac _ (yp X U) (o _ ⟨_,rfl,W,u λx=>?_⟩));rw[wcu,wcr];refine or_congr Iff.rfl ⟨λh=>?_,λ⟨j,a,B⟩=>?_⟩;{subst h;exact⟨by unfold onB;rw[wch f,g.1],wch b,g.2⟩};.rw[wch b]at a;exact(wd4 a).symm};.unfold onB at j;rw[wch f]at j;rw[wch b]at a;rw[wd4 j,wd4 a,weu]at g;exact absurd B (wck g)};.subst t;dsimp only;refine wai ?_;exact y (r.length-(k+1)) _ U ⟨k+1,_,U,rfl,rfl,D,v⟩};.have H:k=r.length:=U;refine Waj (zzo l U) waa.fst λq⟨N,O⟩=>Tt.pure ⟨N,λx=>?_⟩;rw[O,v];unfold LbR;grind
def jvx(a:W7)(x:Wa): -1<=(Qh a x).1/\(Qh a x).1<((Qh a x).2.length:Int):=by unfold Qh;split;{omega};.split;{grind};.have:=ji8 (x:=x) (l:=a) (i:=0);grind
def jhz(sp:Nat->Wa):∀cs(a:W7)(row:Wa),(∀y∈row, -1<=y/\y<(a.length:Int))->(zvs sp cs a row).2.length=row.length+cs.length/\∀y∈(zvs sp cs a row).2, -1<=y/\y<((zvs sp cs a row).1.length:Int)
 |[],a,row,h=>⟨rfl,h⟩
 |c::cs,a,row,h=>by have d:=zl5 a (sp c);have e:=jvx a (sp c);obtain⟨f,b⟩:=jhz sp cs (Qh a (sp c)).2 (row++[(Qh a (sp c)).1]) λy g=>by{grind};refine⟨?_,b⟩;show(zvs sp cs (Qh a (sp c)).2 (row++[(Qh a (sp c)).1])).2.length=_;grind
structure RwOk(W:Nat)(n:Nat)(rows:List (List Int)):Prop where
 w:∀x∈rows,x.length=W
 b:∀x∈rows,∀y∈x, -1<=y/\y<(n:Int)
def z7s{start:Nat->Wa}{step:Wa->Nat->Wa}{tok:Wa->Int}{W:Nat}{d:Int}{P:Int->Prop}(k:∀l,P (tok l)):∀{f i:Nat}{c rows:W7}{a:Wa}{r:W7×W7×Wa},(c.length:Int)<=d->rows.length=i->a.length=i->i<=c.length->RwOk W c.length rows->(∀x∈a,P x)->jmi start step tok W d f i c rows a=some (some r)->r.2.1.length=r.1.length/\r.2.2.length=r.1.length/\RwOk W r.1.length r.2.1/\∀x∈r.2.2,P x
 |0,_,_,_,_,_,_,_,_,_,_,_,h=>by cases h
 |f+1,i,c,rows,a,r,n,p,q,s,g,t,h=>by unfold jmi at h;by_cases m:i<c.length;{rw[if_pos m,z68 _ _ _ _ _ n]at h;have u:=zqz (zkz start step c i) (range W) c [];obtain⟨v,z⟩:=jhz (zkz start step c i) (range W) c [] V;by_cases j:((zvs (zkz start step c i) (range W) c []).1.length:Int)<=d;{rw[if_pos j]at h;refine z7s k j X X U ⟨λx e=>?_,λx e y o=>?_⟩ (λx e=>?_) h;{rcases wcu.1 e with e|e;{exact g.w x e};grind};{rcases wcu.1 e with e|e;{have:=g.b x e y o;omega};grind};grind};grind};grind
def tokF_b{n:jl}{m t i:Int}(hm:0<=m)(b:∀x∈n.2.1,0<=x/\x<m)(c:n.2.1.length=n.1.length)(d : -1<=t/\t<m): -1<=zg8 n t i/\zg8 n t i<m:=by unfold zg8;split;{rename_i h;have a:i.toNat<n.2.1.length:=U;have e:=b _ (wcm a);grind};omega
def tokS_b{n:jl}{m:Int}(hm:0<=m)(b:∀x∈n.2.1,0<=x/\x<m)(a:n.2.1.length=n.1.length)(l:Wa): -1<=zp2 n l/\zp2 n l<m:=by unfold zp2;split;{have d:∀(l:Wa)t, -1<=t/\t<m -> -1<=l.foldl (zg8 n) t/\l.foldl (zg8 n) t<m:=by{intro l;induction l with|nil=>{simp}|cons x l c=>intro t h;exact c _ (tokF_b hm b a h)};grind};omega
def jq3{n:jl}{a:Wd}{W:Nat}(u:W<=256){z:Int}(hz:1<=z){m:Int}(hm:0<=m)(q:∀x∈n.2.1,0<=x/\x<m)(p:n.2.1.length=n.1.length){r:W7×W7×Wa}(e:zo2 n a W z 202 0 [[]] [] []=some (some r)):MOk (a,(W:Int),r.2.1,r.2.2,())/\∀x∈r.2.2, -1<=x/\x<m:=by have e:=e;obtain⟨s,t,g,l⟩:=z7s (rows:=[]) (P:=λx=> -1<=x/\x<m) (tokS_b hm q p) U rfl rfl V ⟨λx k=>X,λx k=>X⟩ (λx k=>X) e;obtain⟨h,_⟩:=z0c U e;have h:=h;refine⟨⟨?_,?_,?_,λi h0 f=>?_,λi c h0 f o d=>?_⟩,l⟩;{grind};{grind};{grind};{have:=g.w _ (zg3 h0 f);grind};.have j:=g.w _ (zg3 h0 f);have j:=j;have d:c<(W:Int):=d;have:=g.b _ (zg3 h0 f) _ (zg3 o U);grind
def jwc{n:jl}{a:Wd}{W:Nat}(d:∃n,ClsN a n)(j:W<=256){z:Int}(hz:1<=z)(f:z<=200):DSz (jof a (W:Int) (zo2 n a W z 202 0 [[]] [] [])).1:=by cases e:zo2 n a W z 202 0 [[]] [] []with|none=>{exact DSz.zero}|some o=>cases o with|none=>{exact DSz.zero}|some r=>have e:=e;obtain⟨g,h,c,_⟩:=z7s (rows:=[]) (P:=λ_=>True) (λ_=>trivial) U rfl rfl V ⟨λx b=>X,λx b=>X⟩ (λx b=>V) e;obtain⟨_,i⟩:=z0c U e;exact⟨d,⟨by show 0<=(W:Int);omega,by show(W:Int)<=256;omega⟩,by show r.2.1.length<=300;omega,by show r.2.2.length<=300;omega,λx b=>by have:=c.w x b;omega⟩
def zgj{L:Wam jc}(h:(jy L).1=0):∀d∈L,d.1=0:=by induction L with|nil=>{simp}|cons d l a=>unfold jy at h;grind
def z8e{g:jb}(h:gFd g=zd):∀t∈g.1,Y3 t.2.1=0:=λt e=>by have b:(gFd g).1=0:=by{rw[h]};unfold gFd at b;have c:=zgj b;obtain⟨i,d⟩:=wdd e;have a:=c (zoj g i t) (wcu.2 (.inr (wcu.2 (.inr (wcu.2 (.inl (wcq (by rw[zr1,we5,d];rfl))))))));unfold zoj at a;split at a;{omega};split at a;{omega};grind
def jep{g:jb}(h:gFd g=zd):1<=g.2.2.2.2.1:=by
 have a:(gFd g).1=0:=by{rw[h]};unfold gFd at a;have b:=zgj a;have c:=b (if g.2.2.2.2.1<1\/4096<g.2.2.2.2.1 then(2,0,0,())else zd) (wcu.2 (.inr (wcu.2 (.inl (by
  have:szB g=(if g.2.2.2.2.1<1\/4096<g.2.2.2.2.1 then(2,0,0,())else zd)::(szB g).tail:=rfl;grind)))))
 grind
def zuz(g:jb)(l:Wam jj)(r:l.length<=1000000)(h:∀x∈l,zdg g x):Tn (λp=>zay p g l) (λb=>b=true):=by unfold zay;refine Tt.loop (λm s=>∃d,d<=l.length/\m=l.length-d/\s=(l,(d:Int),g)) l.length waa ⟨0,U,Wab,rfl⟩ λm s⟨d,q,t,j⟩ u i=>?_;subst j;dsimp only;refine wad (λc=>?_) λc=>Tt.pure rfl;have e:d<l.length:=U;have a:=atN e;obtain⟨o,k⟩:=h _ (wcm e);generalize l[d]=x at a o k;refine Tt.J (λs=>s=(l,(d:Int),false,g)) (λv f=>?_) λs j=>?_;{refine wac _ a (Tt.b1 (wae (wc3 U) (wac _ a (wab (λn=>?_) λn=>?_))));{rw[if_pos n]at k;refine wac _ a (wae (wc3 U) (wac _ a (Tt.b1 (wae X (f _ rfl)))))};.rw[if_neg X]at k;refine wac _ a (Tt.b1 (wah X (wac _ a (f _ ?_))));grind};.subst j;refine wae rfl (Tt.b1 ?_);dsimp only;rw[wI U U];exact i (l.length-(d+1)) _ U ⟨d+1,U,rfl,rfl⟩
def jom{g:jb}{em:Wb}{al:W7}(a:FSn g em al){t:Int}:∀{l:Wam jj},inF em al t l->FiL em g.2.2.1 t l
 |[],h=>h.elim
 |x::l,h=>by
  unfold inF at h;by_cases c:x.1=true
  .rw[if_pos c]at h;rcases h with h|⟨b,d⟩
   {obtain⟨p,i,e,f⟩:=a _ t h;exact .rule c i e f};.exact .skip c b (jom a d)
  .rw[if_neg c]at h;exact .tok X h
def zw9{g:jb}{em:Wb}{al:W7}(d:∀l∈al,RN g.1.length l){t:Int}:∀{l:Wam jj},(∀x∈l,zdg g x)->inF em al t l->0<=t/\t<(g.1.length:Int)
 |[],_,h=>h.elim
 |x::l,a,h=>by
  unfold inF at h;by_cases c:x.1=true
  .rw[if_pos c]at h;rcases h with h|⟨_,e⟩
   {by_cases hz:x.2.1.toNat<al.length;{have:al.getD x.2.1.toNat []=al[x.2.1.toNat]:=X;rw[this]at h;exact(d _ (wcm hz)).b t h};grind};.exact zw9 d (λy f=>a y X) e
  .rw[if_neg c]at h;obtain⟨i,j⟩:=a x V;grind
def zzu(g:jb)(P:zei g)(hz:gFd g=zd)(d:GOk g)(em:Wb)(al:W7)(N:Tn (λn=>Jy n g) (λr=>r=em))(q:em.length=g.2.1.length)(B:∀p∈g.2.2.1,fiC em al p)(D:FRn g em al)(l:Wam jj)(H:l.length<=1000000)(a:∀x∈l,zdg g x):Tn (λn=>zdl n g l) (λr=>RN g.1.length r/\∀t,t∈r↔inF em al t l):=by
 have ht:=d.t;have hr:=d.r;have I:∀i:Nat,Tn (λn=>yh n n (g,em,l,(i:Int),replicate g.2.1.length false)) (λw=>w.1=true↔inF em al (i:Int) l):=λi=>by
  have o:=zl1 (zxz g d em al q B (i:Int) (yw (replicate g.2.1.length false)+1) l (replicate g.2.1.length false) (we0 _) V a H);have C:=zl1 (zur g d em q (i:Int) (yw (replicate g.2.1.length false)+1) l (replicate g.2.1.length false) (we0 _) V a H);refine Tt.mono (wby o C) λw⟨⟨_,_,Z⟩,k2⟩=>⟨Z,λh=>Classical.byContradiction λT=>?_⟩
  obtain⟨k3,k4⟩:=k2.s X;refine jv8 (λp S=>(d.left p S).1) (λj Q=>?_) (jom D.s h) k3;rcases k4 j Q with M|M;{grind};omega
 unfold zdl;refine Tt.J (λs=>s=(l,false,g,[])) (λnx f=>?_) λs y=>?_;{refine Waj (zbu g P) waa λb F=>?_;have G:=F.2 hz;subst G;refine Tt.b1 (wae rfl (Waj (zuz g l H a) waa λb F=>f _ ?_));subst F;rfl};.subst y;refine wae rfl (Waj N waa λe O=>?_);subst O;refine Tt.loop (λm s=>∃(i:Nat)(k:Wa),i<=g.1.length/\m=g.1.length-i/\s=(l,e,(i:Int),g,k)/\RN g.1.length k/\∀t,t∈k↔inF e al t l/\t<(i:Int)) g.1.length waa ⟨0,[],U,U,rfl,RN.nil _,λt=>⟨λh=>(by cases h),λ⟨o,C⟩=>by have:=zw9 D.r a o;omega⟩⟩ λm s⟨i,k,hi,hm,y,A,u⟩ nx f=>?_;subst y;dsimp only;refine wad (λc=>?_) λc=>Tt.pure ⟨A,λt=>?_⟩;{refine Tt.J (λs=>∃z,s=(l,e,(i:Int),g,z)/\RN g.1.length z/\∀t,t∈z↔inF e al t l/\t<(i:Int)+1) (λny v=>?_) λs⟨z,y,o,C⟩=>?_;{refine Tt.b1 (wac _ (mkN U U) ?_);refine Waj (I i) waa.fst λw T=>?_;have R:=A.len;refine wab (λL=>wac _ (yp X U) (v _ ⟨_,rfl,A.snoc U λx Y=>((u x).1 Y).2,λt=>?_⟩)) λL=>v _ ⟨_,rfl,A,λt=>?_⟩;{grind};grind};.subst y;dsimp only;refine wai ?_;exact f (g.1.length-(i+1)) _ U ⟨i+1,z,U,rfl,rfl,o,λt=>X⟩};.rw[u];exact⟨λh=>h.1,λh=>⟨h,by have:=zw9 D.r a h;omega⟩⟩
def n3{o k j n:Nat}(h:o<=k+n)(a:j<=o):j+1+(o-j)<=k+1+n:=U
def zls{n:Nat}(hn:n<=1000){F l:Wa}(h0:RN n F)(u:RN n l):Tn (λnn=>Vk nn F l) (λr=>RN n r/\∀x,x∈r↔x∈F\/x∈l):=by
 have hl:=u.len;have a9:=h0.len;unfold Vk;refine Tt.bind (R:=λr=>(jx r/\∀x,x∈r↔x∈F)/\r.length<=1000) ?_ λG⟨⟨Z,O⟩,a7⟩=>?_
 .refine Tt.mono (Tt.call (zzo F U) waa) λr⟨I,L⟩=>⟨⟨I,L⟩,?_⟩
  have:=(RN.len ⟨I,λx hx=>h0.b x ((L x).1 hx)⟩)
  omega
 refine Tt.mono (Q:=λr=>jx r/\∀x,x∈r↔x∈G\/x∈l) ?_ λr⟨I,L⟩=>⟨⟨I,λx hx=>?_⟩,λx=>X⟩
 rotate_left
 {rcases(L x).1 hx with h|h;{exact h0.b x ((O x).1 h)};.exact u.b x h};clear u;refine Tt.loop (λm s=>∃k o,k<=l.length/\m=l.length-k/\s=(l,(k:Int),o)/\o.length<=k+G.length/\jx o/\∀x,x∈o↔x∈G\/x∈l.take k) l.length waa ⟨0,_,U,Wab,rfl,U,Z,V⟩ λm s⟨k,o,hk,hm,g,b4,d,f⟩ nx S=>?_;subst g;dsimp only;refine wab (λc=>?_) λc=>?_;rotate_left
 {have c:=wck c;have:k=l.length:=U;rw[this,wc8]at f;exact Tt.pure ⟨d,f⟩};have c:=wcj c;have z:k<l.length:=U;have t:∀x,x∈l.take (k+1)↔x∈l.take k\/x=l[k]:=λx=>by{rw[wcp z,wcu,wcr]};refine Tt.J (λs=>∃o,s=(l,(k:Int),o)/\o.length<=k+1+G.length/\jx o/\∀x,x∈o↔x∈G\/x∈l.take (k+1)) (λny B=>?_) λs⟨o,g,u,h2,h3⟩=>?_;rotate_left
 {subst g;dsimp only;refine Tt.b1 ?_;rw[wI U U];exact S (l.length-(k+1)) _ U ⟨k+1,o,U,rfl,rfl,u,h2,h3⟩};refine wac _ (atN z) ?_;generalize l[k]=v at t;refine Waj (zdf o v U) waa.fst λr hr=>?_;subst hr;refine wab (λp=>B _ ⟨o,rfl,U,d,λx=>?_⟩) λp=>?_;{have p:=wcj p;rw[t,<- or_assoc,<- f];exact⟨.inl,λh=>h.elim id λh=>h▸p⟩};have p:=wck p;refine Tt.loop (λm s=>∃j,j<=o.length/\m=o.length-j/\s=(v,(j:Int),o,o.take j)/\∀y∈o.take j,y<v) o.length waa.fst ⟨0,U,U,rfl,V⟩ λm s⟨j,hj,b0,g,N⟩ nz T=>?_;subst g;dsimp only;refine Tt.J (λs=>∃b,s=(v,(j:Int),b,o,o.take j)/\(b=true↔∃h,o[j]<v)) (λnu A=>?_) λs⟨b,g,hb⟩=>?_;{refine Tt.b1 (wab (λe=>?_) λe=>A _ ⟨false,rfl,⟨λh=>(by cases h),λh=>?_⟩⟩);{have e:=wcj e;have a:j<o.length:=U;refine wac _ (yj a) (wac _ (atN a) (A _ ⟨_,rfl,?_⟩));rw[wc9];exact⟨λh=>⟨a,h⟩,λ⟨_,h⟩=>h⟩};.have e:=wck e;obtain⟨h,_⟩:=h;omega};subst g;dsimp only;refine wab (λe=>?_) λe=>?_;{obtain⟨a,a6⟩:=hb.1 e;refine wac _ (yj a) (wac _ (atN a) (wac _ (yp W U) (Tt.b1 ?_)));rw[wI U U];have a0:=wcp a;refine T (o.length-(j+1)) _ U ⟨j+1,U,rfl,V,λy H=>?_⟩;rw[a0]at H;rcases wcu.1 H with h|h;{exact N y h};.rwa [wcr.1 h]}
 .have b3:∀y∈o.drop j,v<y:=λy H=>by{obtain⟨q,Y,rfl⟩:=wei H;rw[List.getElem_drop];rw[List.length_drop]at Y;have a:=n1 Y;have u:¬o[j]<v:=λh=>by{rw[hb.2 ⟨a,h⟩]at e;cases e};have h2:o[j]≠v:=λh=>p (h▸wcm a);by_cases h:q=0;{subst h;simp only[wd9];omega};.have:=zq8 d (i:=j) (j:=j+q) U U;omega};refine wac _ (yp W U) ?_;have a5:(o.take j).length=j:=by{simp[hj]};refine Tt.loop (λm s=>∃q,j<=q/\q<=o.length/\m=o.length-q/\s=((q:Int),o,o.take j++[v]++(o.drop j).take (q-j))) (o.length-j) waa.fst.fst ⟨j,wcs _,hj,rfl,X⟩ λm s⟨q,M,Y,b2,g⟩ nw P=>?_;subst g;dsimp only;refine wab (λw=>?_) λw=>?_;{have w:=wcj w;have C:q<o.length:=U;have D:(o.drop j).take (q+1-j)=(o.drop j).take (q-j)++[o[q]]:=by{rw[show q+1-j=(q-j)+1 from Nat.succ_sub M,wcp X,List.getElem_drop];grind};refine wac _ (yj C) (wac _ (atN C) (wac _ (yp X U) (Tt.b1 ?_)));rw[wI U U];exact P (o.length-(q+1)) _ U ⟨q+1,U,U,rfl,X⟩}
  .have w:=wck w;have:q=o.length:=U;have D:(o.drop j).take (q-j)=o.drop j:=wd8 X;rw[D];refine(Tt.fst (B _ ⟨_,rfl,X,?_,λx=>?_⟩)).fst;{unfold jx;rw[wc2,wel];have b6:(o.take j).Pairwise (· < ·):=we1 (List.take_sublist _ _) d;have b7:(o.drop j).Pairwise (· < ·):=we1 (List.drop_sublist _ _) d;grind}
   .rw[t,<- or_assoc,<- f];conv=>rhs;rw[<- wd2 j o]
    grind
def sliD'{α:Type}{l:Wam α}{k:Nat}(h:k<=l.length):zg9 l (some (k:Int)) none=some (l.drop k):=by unfold zg9 bdN;grind
structure EmA(g:jb)(em:List Bool)(al:List (List Int)):Prop where
 e:Tn (λnn=>Jy nn g) (λr=>r=em)
 l:em.length=g.2.1.length
 f:∀p∈g.2.2.1,fiC em al p
structure FoS(g:jb)(B out:List (List Int)):Prop where
 l:out.length=g.2.1.length
 n:∀r∈out,RN (g.1.length+1) r
 s:∀i:Nat,∀t∈out.getD i [],t∈B.getD i []
def FoS.at{g:jb}{B out:W7}(h:FoS g B out){i:Nat}(hi:i<out.length):RN (g.1.length+1) out[i]/\∀t∈out[i],t∈B.getD i []:=by refine⟨h.n _ (wcm hi),λt a=>h.s i t ?_⟩;grind
def FoS.set{g:jb}{B out:W7}(h:FoS g B out){i:Nat}{r:Wa}(d:RN (g.1.length+1) r)(e:∀t∈r,t∈B.getD i []):FoS g B (out.set i r):=by refine⟨by rw[wd5];exact h.l,λx c=>?_,λj t a=>?_⟩;{rcases weh c with b|b;{exact h.n x b};grind};.simp[List.getD,wdl]at a;split at a;{grind};.exact h.s j t a
def jb7(g:jb)(t:zei g)(hz:gFd g=zd)(em:Wb)(p:Tn (λk=>Jy k g) (λr=>r=em))(f:em.length=g.2.1.length)(l:Wam jj)(n:l.length<=1000000)(c:∀x∈l,zdg g x):Tn (λk=>zcl k g l) (λb=>b=true↔∀x∈l,x.1=true/\em[x.2.1.toNat]?=some true):=by unfold zcl;refine Tt.J (λb=>b=true↔∀x∈l,x.1=true/\em[x.2.1.toNat]?=some true) (λw i=>?_) λs u=>Tt.pure u;refine Waj (zbu g t) waa λb a=>?_;have d:=a.2 hz;subst d;refine wah rfl (Waj (zuz g l n c) waa λb a=>?_);subst a;refine wah rfl (Waj p waa λe q=>?_);subst q;refine Waj (jht g l e false n f c) waa λb a=>i _ (Iff.trans a ?_);constructor;{intro h x j;obtain⟨o,m⟩:=h x j;grind};.intro h x j;obtain⟨o,m⟩:=h x j;exact⟨λ_=>m,λv=>X⟩
structure EmX(g:jb)(em:List Bool)(al:List (List Int)):Prop extends EmA g em al where
 x:FRn g em al
def jfx(g:jb)(i:zei g)(hz:gFd g=zd)(a:GOk g){em:Wb}{al:W7}(c:EmX g em al){p:jk}(j:p∈g.2.2.1){k:Nat}(u:k<p.2.1.length):Tn (λo=>zcp o g p (k:Int)) (λr=>RN g.1.length r.1/\(∀t,t∈r.1↔inF em al t (p.2.1.drop (k+1)))/\(r.2.1=true↔∀x∈p.2.1.drop (k+1),x.1=true/\em[x.2.1.toNat]?=some true)):=by have v:=a.len p j;have d:∀x∈p.2.1.drop (k+1),zdg g x:=λx n=>a.items p j x (wfe n);have h:(p.2.1.drop (k+1)).length<=1000000:=X;unfold zcp;rw[wI U U];refine wac _ (sliD' (k:=k+1) U) ?_;refine Waj (zzu g i hz a em al c.e c.l c.f c.x _ h d) waa λr⟨q,s⟩=>?_;exact Waj (jb7 g i hz em c.e c.l _ h d) waa λb m=>Tt.pure ⟨q,s,m⟩
def jhp(T:Nat):∀l,Q9 T l<=l.length*T
 |[]=>by simp[Q9]
 |a::l=>by have:=jhp T l;simp[Q9,wdq,Nat.succ_mul];omega
def jg1(g:jb)(hg:zei g)(hz:gFd g=zd)(G:GOk g){em re:Wb}{al B:W7}(hA:EmX g em al)(d8:Tn (λnn=>zk nn g) (λr=>r=re))(k6:re.length=g.2.1.length)(a4:(g.1.length:Int)∈B.getD g.2.2.2.1.toNat [])(d2:∀p∈g.2.2.1,re[p.1.toNat]?=some true->foC em al B p):Tn (λnn=>Ya nn g) (λo=>FoS g B o/\(g.1.length:Int)∈o.getD g.2.2.2.1.toNat []/\∀p∈g.2.2.1,re[p.1.toNat]?=some true->foC em al o p):=by
 have ht:=G.t;have hr:=G.r;have hp:=G.p;unfold Ya;refine Waj (zbu g hg) waa λb hb=>?_;have d9:=hb.2 hz;subst d9;refine wae rfl (Waj d8 waa λw hw=>?_);subst hw;refine Tt.loop (λm s=>∃(d:Nat),d<=g.2.1.length/\m=g.2.1.length-d/\s=(w,(d:Int),g,replicate d ([]:Wa))) g.2.1.length waa ⟨0,U,Wab,rfl⟩ λm s⟨d,hd,hm,H⟩ nx g0=>?_;subst H;dsimp only;refine wab (λc=>?_) λc=>?_;{have c:=wcj c;refine wac _ (yp X U) (Tt.b1 ?_);rw[wI U U];exact g0 (g.2.1.length-(d+1)) _ U ⟨d+1,U,rfl,by rw[List.replicate_succ'];rfl⟩};have c:=wck c;have e0:d=g.2.1.length:=U;subst e0;obtain⟨st,g7⟩:∃st:Nat,g.2.2.2.1=st:=⟨g.2.2.2.1.toNat,by have:=G.start;omega⟩
 have g6:=G.start.2;rw[g7]at g6 a4⊢;rw[wcy]at a4⊢;have Y:st<(replicate g.2.1.length ([]:Wa)).length:=X;refine wac _ (yj Y) (wac _ (zr _ Y) ?_);have h0:FoS g B (replicate g.2.1.length []):=⟨V,λr h=>by rw[List.eq_of_mem_replicate h];exact RN.nil _,λi t h=>by
  simp only[List.getD,wee]at h;split at h<;>cases h⟩
 have h0:=h0.set (i:=st) (r:=[(g.1.length:Int)]) (RN.one U U) λt h=>by{rw[wcr.1 h];exact a4};have h1:(g.1.length:Int)∈((replicate g.2.1.length ([]:Wa)).set st [(g.1.length:Int)]).getD st []:=by{simp only[List.getD,wdl];simp at Y;simp[Y]};generalize (replicate g.2.1.length ([]:Wa)).set st [(g.1.length:Int)]=o0 at h0 h1⊢;refine Tt.J (λo=>FoS g B o/\(g.1.length:Int)∈o.getD st []/\∀p∈g.2.2.1,w[p.1.toNat]?=some true->foC em al o p) (λnf f8=>?_) λs H=>Tt.pure H;obtain⟨M,hM⟩:∃M:Nat,M=g.2.1.length*(g.1.length+1):=⟨_,rfl⟩
 have i0:M<=5000:=by{rw[hM];exact wdt (Nat.mul_le_mul hr (Nat.succ_le_succ ht)) V};have g5:∀o,FoS g B o->Q9 (g.1.length+1) o<=M:=λo I=>by{have:=jhp (g.1.length+1) o;rwa [I.l,<- hM]at this};have d7:T.w64 ((g.2.1.length:Int)*T.w64 ((g.1.length:Int)+1))=(M:Int):=by{have e:(g.2.1.length:Int)*((g.1.length:Int)+1)=(M:Int):=by{rw[hM];simp};rw[wI (z:=(g.1.length:Int)+1) U U,e,wI U U]};refine Tt.loop (λm s=>∃(n:Nat)(o:W7),m=M+1-n/\s=(w,(n:Int),g,o)/\FoS g B o/\(g.1.length:Int)∈o.getD st []/\n+Q9 (g.1.length+1) o<=M) (M+1) waa.fst ⟨0,o0,U,rfl,h0,h1,X⟩ λm s⟨n,C,hm,H,g4,e6,k3⟩ ny g1=>?_;subst H;dsimp only;rw[d7];refine wah (wdg U) ?_;refine Tt.loop (λm s=>∃(fr:Bool)(i:Nat)(o:W7),i<=g.2.2.1.length/\m=g.2.2.1.length-i/\s=(w,(n:Int),fr,(i:Int),g,o)/\FoS g B o/\(g.1.length:Int)∈o.getD st []/\(fr=true->Q9 (g.1.length+1) o<Q9 (g.1.length+1) C)/\(fr=false->o=C/\∀(j:Nat)(p:jk),j<i->g.2.2.1[j]?=some p->w[p.1.toNat]?=some true->foC em al C p)) g.2.2.1.length waa.fst.fst ⟨false,0,C,U,Wab,rfl,g4,e6,λh=>X,λ_=>⟨rfl,λj p h=>U⟩⟩ λm s⟨fr,i,o,hi,hm,H,I,D,F,a⟩ nz g2=>?_;subst H;dsimp only;refine wab (λc2=>?_) λc2=>wab (λL=>?_) λL=>Tt.b1 ?_;rotate_left
 {have c2:=wck c2;have hf:fr=false:=by{simpa using L};obtain⟨rfl,k0⟩:=a hf;refine(f8 _ ⟨I,D,λp P hw=>?_⟩).fst.fst;obtain⟨j,hj⟩:=wdd P;grind};{have hf:fr=true:=by{simpa using L};have:=F hf;rw[wI U U];exact(g1 (M+1-(n+1)) _ U ⟨n+1,o,rfl,rfl,I,D,U⟩).fst};have c2:=wcj c2;have a6:i<g.2.2.1.length:=U;have A:g.2.2.1[i]∈g.2.2.1:=wcm a6;have b6:g.2.2.1[i]?=some g.2.2.1[i]:=wch a6;refine wac _ (atN a6) ?_;generalize g.2.2.1[i]=p at A b6⊢;obtain⟨l0,l1⟩:=G.left p A;have k4:=G.len p A;obtain⟨q,hq⟩:∃q:Nat,p.1=q:=⟨p.1.toNat,U⟩
 have a7:q<w.length:=U;refine Tt.loop (λm s=>∃(fr:Bool)(k:Nat)(o:W7),k<=p.2.1.length/\m=p.2.1.length-k/\s=(w,(n:Int),fr,(i:Int),(k:Int),g,o,p)/\FoS g B o/\(g.1.length:Int)∈o.getD st []/\(fr=true->Q9 (g.1.length+1) o<Q9 (g.1.length+1) C)/\(fr=false->o=C/\(∀(j:Nat)(p:jk),j<i->g.2.2.1[j]?=some p->w[p.1.toNat]?=some true->foC em al C p)/\∀(j:Nat)(x:jj),j<k->p.2.1[j]?=some x->x.1=true->∀t,inT em al (C.getD p.1.toNat []) t (p.2.1.drop (j+1))->t∈C.getD x.2.1.toNat [])) p.2.1.length waa.fst.fst.fst ⟨fr,0,o,U,U,rfl,I,D,F,λh=>⟨(a h).1,(a h).2,λj x h=>U⟩⟩ λm s⟨fr,k,o,hk,hm,H,I,D,F,a⟩ nw f9=>?_;subst H;dsimp only;refine Tt.J (λs=>∃b,s=(w,(n:Int),fr,(i:Int),(k:Int),b,g,o,p)/\(b=true↔k<p.2.1.length/\w[q]?=some true)) (λnu b9=>?_) λs⟨b,H,hb⟩=>?_;{rw[hq];refine wac _ (atN a7) (wab (λL=>b9 _ ⟨_,rfl,?_⟩) λL=>b9 _ ⟨_,rfl,?_⟩);{rw[wch a7,L,wc9];simp};.rw[wch a7,L];simp};subst H;dsimp only;refine wab (λL=>?_) λL=>Tt.b1 ?_;rotate_left
 {rw[wI U U];refine(g2 (g.2.2.1.length-(i+1)) _ U ⟨fr,i+1,o,U,rfl,rfl,I,D,F,λh=>⟨(a h).1,λj p2 hj P hw=>?_⟩⟩).fst;obtain⟨_,f2,f3⟩:=a h;by_cases f0:j<i;{exact f2 j p2 f0 P hw};.have:j=i:=U;subst this;rw[b6]at P;cases P;rw[hq,wcy]at hw;have N:¬k<p.2.1.length:=λf6=>by{rw[hb.2 ⟨f6,hw⟩]at L;cases L};exact λj2 x hx=>f3 j2 x (by have:=(wcl.1 hx).1;omega) hx};obtain⟨N,g9⟩:=hb.1 L;have e8:=d2 p A (by rw[hq,wcy];exact g9);have a5:p.2.1[k]?=some p.2.1[k]:=wch N;have c5:=G.items p A _ (wcm N);have b3:=atN N;generalize p.2.1[k]=x at a5 c5 b3;refine Tt.J (λs=>∃(fr:Bool)(o:W7),s=(w,(n:Int),fr,(i:Int),(k:Int),g,o,p)/\FoS g B o/\(g.1.length:Int)∈o.getD st []/\(fr=true->Q9 (g.1.length+1) o<Q9 (g.1.length+1) C)/\(fr=false->o=C/\(∀(j:Nat)(p:jk),j<i->g.2.2.1[j]?=some p->w[p.1.toNat]?=some true->foC em al C p)/\∀(j:Nat)(x:jj),j<k+1->p.2.1[j]?=some x->x.1=true->∀t,inT em al (C.getD p.1.toNat []) t (p.2.1.drop (j+1))->t∈C.getD x.2.1.toNat [])) (λnv c0=>?_) λs⟨fr,o,H,I,D,F,a⟩=>?_;rotate_left
 {subst H;dsimp only;refine Tt.b1 ?_;rw[wI U U];exact f9 (p.2.1.length-(k+1)) _ U ⟨fr,k+1,o,U,rfl,rfl,I,D,F,a⟩};have a0:(x.1=true->∀t,inT em al (C.getD p.1.toNat []) t (p.2.1.drop (k+1))->t∈C.getD x.2.1.toNat [])->(∀(j:Nat)(x:jj),j<k->p.2.1[j]?=some x->x.1=true->∀t,inT em al (C.getD p.1.toNat []) t (p.2.1.drop (j+1))->t∈C.getD x.2.1.toNat [])->∀(j:Nat)(x:jj),j<k+1->p.2.1[j]?=some x->x.1=true->∀t,inT em al (C.getD p.1.toNat []) t (p.2.1.drop (j+1))->t∈C.getD x.2.1.toNat []:=λh1 h2 j y hj hy=>by{by_cases f1:j<k;{exact h2 j y f1 hy};.have:j=k:=U;subst this;rw[a5]at hy;cases hy;exact h1};refine wac _ b3 (wab (λcx=>c0 _ ⟨_,_,rfl,I,D,F,λh=>⟨(a h).1,(a h).2.1,a0 (λh2=>by rw[h2]at cx;cases cx) (a h).2.2⟩⟩) λcx=>?_);have cx:x.1=true:=by{simpa using cx};obtain⟨i1,i2⟩:=c5;rw[if_pos cx]at i2;obtain⟨z,Z⟩:∃z:Nat,x.2.1=z:=⟨x.2.1.toNat,U⟩
 have f:z<o.length:=by{rw[I.l];omega};have S:q<o.length:=by{rw[I.l];omega};have e9:∀t,inT em al (B.getD q []) t (p.2.1.drop (k+1))->t∈B.getD z []:=λt h=>by{have:=e8 k x a5 cx t (by rw[hq,wcy];exact h);rwa [Z,wcy]at this};refine Waj (jfx g hg hz G hA A N) waa.fst.fst.fst.fst λr⟨r1,r2,r3⟩=>?_;obtain⟨h7,h8⟩:=I.at S;refine Tt.J (λs=>∃u:Wa,s=(w,(n:Int),fr,(i:Int),(k:Int),u,g,o,p,x)/\RN (g.1.length+1) u/\∀t,t∈u↔inT em al o[q] t (p.2.1.drop (k+1))) (λna b7=>?_) λs⟨u,H,hu,c1⟩=>?_
 .refine wab (λcv=>?_) λcv=>b7 _ ⟨_,rfl,r1.up U,λt=>by
   rw[zh1,r2];exact⟨.inl,λh=>h.elim id λh=>by rw[r3.2 h.1]at cv;cases cv⟩⟩
  rw[hq];refine wac _ (yj S) (wac _ (atN S) ?_);refine Waj (zls (n:=g.1.length+1) U (r1.up U) h7) waa.fst.fst.fst.fst λv⟨v1,v2⟩=>b7 _ ⟨_,rfl,v1,λt=>?_⟩;rw[v2,zh1,r2];exact⟨λh=>h.imp id λh=>⟨r3.1 cv,h⟩,λh=>h.imp id λh=>h.2⟩
 .subst H;dsimp only;rw[Z];obtain⟨o1,o2⟩:=I.at f;refine wac _ (yj f) (wac _ (atN f) ?_);refine Waj (zls (n:=g.1.length+1) U hu o1) waa.fst.fst.fst.fst λv⟨v1,v2⟩=>?_;have d5:∀t∈u,t∈B.getD z []:=λt h=>e9 t (zz7 (λy hy=>h8 y hy) ((c1 t).1 h));have g3:FoS g B (o.set z v):=I.set v1 λt h=>((v2 t).1 h).elim (d5 t) (o2 t);have a1:∀t∈o[z],t∈v:=λt h=>(v2 t).2 (.inr h);have b4:(g.1.length:Int)∈(o.set z v).getD st []:=z9q f a1 D;obtain⟨s1,s2⟩:=zkb o1.r v1.r a1;have Q:v.length<=o[z].length->o.set z v=o/\∀t∈u,t∈o[z]:=λh=>by{have e:=s2 h;refine⟨?_,λt g8=>by rw[e];exact(v2 t).2 (.inl g8)⟩;rw[<- e];exact List.set_getElem_self f};have O:o[z].length<v.length->Q9 (g.1.length+1) (o.set z v)<Q9 (g.1.length+1) o:=λh=>zmi (wch f) h v1.len;have k2:Q9 (g.1.length+1) (o.set z v)<=Q9 (g.1.length+1) o:=by{by_cases h:o[z].length<v.length;{exact Nat.le_of_lt (O h)};.rw[(Q U).1];exact wcs _};refine Tt.J (λs=>∃f2:Bool,s=(w,(n:Int),f2,(i:Int),(k:Int),v,g,o,p,x)/\(f2=true↔fr=true\/o[z].length<v.length)) (λnb b8=>wab (λc4=>b8 _ ⟨_,rfl,by simp[c4]⟩) λc4=>?_) λs⟨f2,H,b5⟩=>?_;{refine wac _ (yj f) (wac _ (atN f) (b8 _ ⟨_,rfl,?_⟩));rw[wc9,c4];simp};.subst H;dsimp only;rw[Z];refine wac _ (yj f) (wac _ (zr _ f) (c0 _ ⟨_,_,rfl,g3,b4,λh=>?_,λh=>?_⟩));{rcases b5.1 h with h2|h2;{have:=F h2;omega};.have:=O h2;cases R:fr with|true=>{have:=F R;omega}|false=>rw[(a R).1]at this⊢;exact this};.have h3:¬(fr=true\/o[z].length<v.length):=λh4=>by{rw[b5.2 h4]at h;cases h};have R:fr=false:=by{cases hh:fr with|false=>{rfl}|true=>exact absurd (.inl hh) h3};obtain⟨e1,f4,f5⟩:=a R;obtain⟨e2,e3⟩:=Q (Nat.le_of_not_lt λh4=>h3 (.inr h4));subst e1;refine⟨e2,f4,a0 (λ_ t h5=>?_) f5⟩;rw[Z,wcy];rw[hq,wcy]at h5;have e4:o.getD q []=o[q]:=by{simp[List.getD,S]};have e5:o.getD z []=o[z]:=by{simp[List.getD,f]};rw[e4]at h5;rw[e5];exact e3 t ((c1 t).2 h5)
def jum{ps:Wam jk}{st:Nat}{en:Int}{em re:Wb}{al o:W7}(h0:en∈o.getD st [])(c:∀p∈ps,re[p.1.toNat]?=some true->foC em al o p){i:Nat}{t:Int}(h:FoL ps st en em re al i t):t∈o.getD i []:=by induction h with|fin=>{omega}|step B d e f a _ b g=>exact c _ d e _ _ f a _ (zz7 g b)
def z8j(g:jb)(w:zei g)(hz:gFd g=zd)(f:GOk g){em re:Wb}{al B:W7}(v:EmX g em al)(e:Tn (λk=>zk k g) (λr=>r=re))(j:re.length=g.2.1.length)(d:B.length=g.2.1.length)(m:FoR g em re al (g.1.length+1) B)(c:(g.1.length:Int)∈B.getD g.2.2.2.1.toNat [])(a:∀p∈g.2.2.1,re[p.1.toNat]?=some true->foC em al B p):Tn (λk=>Ya k g) (λo=>o=B):=
 Tt.mono (jg1 g w hz f v e j c a) λo⟨b,q,u⟩=>jm4 b.l d b.n m.r λi t=>⟨b.s i t,λh=>jum q u (m.s i t h)⟩
def PrE(g:jb)(em:Wb)(al B:W7)(p:jk)(r:Wa):Prop:=RN (g.1.length+1) r/\∀t,t∈r↔inT em al (B.getD p.1.toNat []) t p.2.1
section
variable{g:jb}(hg:zei g)(hz:gFd g=zd)(hok:GOk g){em:List Bool}{al B:List (List Int)}(hA:EmX g em al)(hF:Tn (fun nn => Ya nn g) (fun o => o=B))(hBl:B.length=g.2.1.length)(hBr:∀l ∈ B, RN (g.1.length + 1) l)
include hg hz hok hA hF hBl hBr
def jdf{k:Nat}(z:k<g.2.2.1.length):Tn (λL=>Yn L g (k:Int)) (PrE g em al B g.2.2.1[k]):=by
 have P:=hok.t;have c:=atN z;have a:=wcm z;unfold Yn;generalize g.2.2.1[k]=p at c a;have d:=hok.items p a;have H:=hok.len p a;obtain⟨Q,R⟩:=hok.left p a;obtain⟨q,A⟩:∃q:Nat,p.1=q:=⟨p.1.toNat,U⟩
 refine Tt.J (λs=>s=((k:Int),false,g)) (λS w=>?_) λs y=>?_;{refine Waj (zbu g hg) waa λb n=>?_;have u:=n.2 hz;subst u;refine Tt.b1 (wae rfl (wae (wc3 U) (w _ ?_)));grind}
 .subst y;refine wae rfl (wac _ c ?_);have m:=zzu g hg hz hok em al hA.e hA.l hA.f hA.x _ U d;refine Waj m waa λr⟨C,D⟩=>(Tt.J (PrE g em al B p) (λT i=>?_) λs y=>Tt.pure y)
  refine wac _ c (Waj (jb7 g hg hz em hA.e hA.l _ U d) waa λb n=>wab (λcv=>?_) λcv=>i _ ⟨C.up U,λt=>?_⟩);rotate_left
  {rw[zh1,D];exact⟨.inl,λh=>h.elim id λh=>by rw[n.2 h.1]at cv;cases cv⟩};refine Waj hF waa λo I=>wac _ c ?_;subst I;have j:q<o.length:=U;rw[A];refine Tt.at j ?_;have M:=hBr _ (wcm j);have G:=zls U (C.up U) M;refine Waj G waa λv⟨N,O⟩=>i _ ⟨N,λt=>?_⟩;have F:o.getD q []=o[q]:=X;rw[O,zh1,D,A,wcy,F];grind
def znw:Tn (λj=>Vb j g) (λr=>r.length=g.2.2.1.length/\∀(k:Nat)p l,g.2.2.1[k]?=some p->r[k]?=some l->PrE g em al B p l):=by have v:=hok.p;unfold Vb;refine Tt.loop (λm s=>∃(d:Nat)(o:W7),d<=g.2.2.1.length/\m=g.2.2.1.length-d/\s=((d:Int),g,o)/\o.length=d/\∀(k:Nat)p l,g.2.2.1[k]?=some p->o[k]?=some l->PrE g em al B p l) g.2.2.1.length waa ⟨0,[],U,Wab,rfl,rfl,λk p l _ h=>X⟩ λm s⟨d,o,t,u,i,f,e⟩ x b=>?_;subst i;dsimp only;refine wad (λc=>?_) λc=>Tt.pure ⟨X,e⟩;have a:d<g.2.2.1.length:=U;refine Waj (jdf hg hz hok hA hF hBl hBr a) waa.fst λr w=>wac _ (yp X U) (wai ?_);refine b (g.2.2.1.length-(d+1)) _ U ⟨d+1,_,U,rfl,rfl,X,λk p l n q=>?_⟩;grind
end
structure PdL(g:jb)(em:List Bool)(al B:List (List Int))(r t:Int)(d:Nat)(f:List Int):Prop where
 rs:jx f
 i:∀x,x∈f↔∃(k:Nat)(p:jk),x=(k:Int)/\k<d/\g.2.2.1[k]?=some p/\p.1=r/\inT em al (B.getD p.1.toNat []) t p.2.1
def zq6{g:jb}(hok:GOk g){em:Wb}{al B:W7}{a:W7}(O:a.length=g.2.2.1.length)(C:∀(k:Nat)p l,g.2.2.1[k]?=some p->a[k]?=some l->PrE g em al B p l)(r t:Int):Tn (λM=>Qp M g a r t) (PdL g em al B r t g.2.2.1.length):=by
 have Y:=hok.t;have T:=hok.p;unfold Qp;refine Tt.loop (λm s=>∃d f,d<=g.2.2.1.length/\m=g.2.2.1.length-d/\s=(a,r,t,(d:Int),g,f)/\PdL g em al B r t d f/\f.length<=d) g.2.2.1.length waa ⟨0,[],U,Wab,rfl,⟨by simp[jx],λx=>⟨λh=>X,λ⟨k,_,_,h,_⟩=>U⟩⟩,V⟩ λm s⟨d,f,P,S,w,o,I⟩ Z A=>?_;subst w;dsimp only;refine wad (λc=>?_) λc=>Tt.pure ?_;rotate_left
 {grind};have n:d<g.2.2.1.length:=U;have j:d<a.length:=U;have e:=atN n;have q:=wch n;generalize g.2.2.1[d]=p at e q;obtain⟨N,q2⟩:=C d p _ q (wch j);refine Tt.J (λs=>∃f,s=(a,r,t,(d:Int),g,f)/\PdL g em al B r t (d+1) f/\f.length<=d+1) (λny u=>?_) λs⟨f,w,D,F⟩=>?_;{refine Tt.J (λs=>∃b,s=(a,r,t,(d:Int),b,g,f)/\(b=true↔p.1=r/\inT em al (B.getD p.1.toNat []) t p.2.1)) (λnz v=>?_) λs⟨b,w,G⟩=>?_;{refine wac _ e (Tt.b1 (wad (λz=>Tt.at j ?_) λz=>v _ ⟨_,rfl,⟨λh=>X,λh=>absurd h.1 z⟩⟩));have R:=N.len;refine Waj (zdf _ t U) waa.fst λb G=>v _ ⟨_,rfl,?_⟩;grind};.subst w;dsimp only;refine wab (λz=>?_) λz=>u _ ⟨f,rfl,⟨o.rs,λx=>?_⟩,U⟩;{refine wac _ (yp X U) (u _ ⟨_,rfl,⟨?_,λx=>?_⟩,X⟩);{unfold jx;rw[wel];refine⟨o.rs,V,λy L b H=>?_⟩;obtain⟨k,_,rfl,Q,_⟩:=(o.i y).1 L;grind};.rw[wcu,wcr,o.i];grind};.rw[o.i];grind};.subst w;dsimp only;refine wai ?_;exact A (g.2.2.1.length-(d+1)) _ U ⟨d+1,f,U,rfl,rfl,D,F⟩
def PdL.two{g:jb}{em:Wb}{al B:W7}{r t:Int}{l:Wa}(h:PdL g em al B r t g.2.2.1.length l):1<l.length↔Two g em al B (r,t):=by
 constructor
 .intro u;match l,u,h with
  |a::b::l,_,h=>
   obtain⟨k,p,w,_,c,d,f⟩:=(h.i a).1 V;obtain⟨e,o,x,_,j,m,n⟩:=(h.i b).1 V;have:=(wdk.1 h.rs).1 b V;exact⟨k,e,p,o,U,c,j,d.symm,m.symm,f,n⟩
 .rintro⟨k,e,p,o,v,c,d,f,j,m,n⟩;have q:=(h.i (k:Int)).2 ⟨k,p,rfl,(wcl.1 c).1,c,f.symm,m⟩;have s:=(h.i (e:Int)).2 ⟨e,o,rfl,(wcl.1 d).1,d,j.symm,n⟩;match l,q,s with
  |[a],q,s=>
   grind
  |a::b::l,_,_=>simp
def wa7{g:jb}(a:GOk g){em:Wb}{al B:W7}(o:∀l∈al,RN g.1.length l)(f:∀l∈B,RN (g.1.length+1) l){c:Int×Int}(h:Two g em al B c):(0<=c.1/\c.1<(g.2.1.length:Int))/\0<=c.2/\c.2<=(g.1.length:Int):=by
 obtain⟨k,_,p,_,_,j,_,q,_,m,_⟩:=h;have i:=wcq j;obtain⟨r,s⟩:=a.left p i;refine⟨U,?_⟩;rcases zh1.1 m with d|⟨_,d⟩
 {have:=zw9 o (a.items p i) d;omega};.by_cases n:p.1.toNat<B.length;{have e:B.getD p.1.toNat []=B[p.1.toNat]:=X;rw[e]at d;have:=(f _ (wcm n)).b _ d;omega};grind
def z5r{g:jb}(M:zei g)(hz:gFd g=zd)(f:GOk g){em:Wb}{al B:W7}(q:EmX g em al)(P:Tn (λG=>Ya G g) (λo=>o=B))(w:B.length=g.2.1.length)(i:∀l∈B,RN (g.1.length+1) l):Tn (λG=>Vj G g) (λr=>∃d,r.1=(d.1,d.2.1,d.2.2,())/\CdS g em al B d):=by
 have J:=f.t;have Z:=f.r;unfold Vj;refine Waj (zbu g M) waa λb R=>?_;have y:=R.2 hz;subst y;refine wae rfl (Waj (znw M hz f q P w i) waa λa⟨Q,F⟩=>?_);refine Tt.loop (λm s=>∃d,d<=g.2.1.length/\m=g.2.1.length-d/\s=(a,(d:Int),g,(0,0,0,()))/\∀c,Two g em al B c->(d:Int)<=c.1) g.2.1.length waa ⟨0,U,U,rfl,λc h=>(wa7 f q.x.r i h).1.1⟩ λm s⟨d,T,S,D,n⟩ nx A=>?_;subst D;dsimp only;refine wad (λc=>?_) λc=>Tt.pure ⟨(0,0,0),rfl,.inl ⟨rfl,λv h=>?_⟩⟩;rotate_left
 {have I:=n v h;have p:=(wa7 f q.x.r i h).1.2;omega};refine Tt.loop (λm s=>∃j,j<=g.1.length+1/\m=g.1.length+1-j/\s=(a,(d:Int),(j:Int),g,(0,0,0,()))/\∀c,Two g em al B c->c.1=(d:Int)->(j:Int)<=c.2) (g.1.length+1) waa.fst ⟨0,U,Wab,rfl,λc h _=>(wa7 f q.x.r i h).2.1⟩ λm s⟨j,Y,S,D,u⟩ ny C=>?_;subst D;dsimp only;refine wad (λO=>?_) λO=>Tt.b1 ?_
 .refine Waj (zq6 f Q F _ _) waa.fst.fst λl N=>wad (λv=>?_) λv=>Tt.b1 ?_
  .have H:1<l.length:=U;refine Tt.at H (Tt.pure ⟨(15,(d:Int),(j:Int)),rfl,.inr ⟨((d:Int),(j:Int)),rfl,N.two.1 H,λk h z=>?_⟩⟩);have I:=n k h;rcases z with p|⟨p,L⟩
   {omega};grind
  .rw[wI U U];refine C (g.1.length+1-(j+1)) _ U ⟨j+1,U,rfl,rfl,λk h p=>?_⟩;have L:=u k h p;by_cases e:k.2=(j:Int);{exfalso;have:k=((d:Int),(j:Int)):=Prod.ext p e;rw[this]at h;have:=N.two.2 h;omega};omega
 .rw[wI U U];refine(A (g.2.1.length-(d+1)) _ U ⟨d+1,U,rfl,rfl,λk h=>?_⟩).fst;have I:=n k h;by_cases e:k.1=(d:Int);{have p:=u k h e;have L:=(wa7 f q.x.r i h).2.2;omega};omega
def AtS(g:jb)(em:Wb)(al B:W7)(r t:Nat)(z:Int):Prop:=(∃(k:Nat)(p:jk),z=(k:Int)/\g.2.2.1[k]?=some p/\p.1=(r:Int)/\inT em al (B.getD p.1.toNat []) (t:Int) p.2.1)\/(z=-1/\∀(k:Nat)(p:jk),g.2.2.1[k]?=some p->p.1=(r:Int)->¬inT em al (B.getD p.1.toNat []) (t:Int) p.2.1)
def AtS.one{g:jb}{em:Wb}{al B:W7}{r t:Nat}{z f:Int}(m:NC g em al B)(h:AtS g em al B r t z)(a:AtS g em al B r t f):z=f:=by
 rcases h with⟨k,p,rfl,i,n,j⟩|⟨rfl,h⟩
 .rcases a with⟨d,e,rfl,b,l,c⟩|⟨_,a⟩
  {rw[m k d p e i b U t j c]};grind
 .rcases a with⟨d,e,rfl,b,l,c⟩|⟨rfl,_⟩
  {grind};rfl
structure TbS(g:jb)(em:List Bool)(al B:List (List Int))(ll:List (List Int)):Prop where
 n:ll.length=g.2.1.length
 w:∀(r:Nat)(row:List Int),ll[r]?=some row->row.length=g.1.length+1
 c:∀(r t:Nat)(row:List Int)(z:Int),ll[r]?=some row->row[t]?=some z->AtS g em al B r t z
def TbS.one{g:jb}{em:Wb}{al B:W7}{a b:W7}(m:NC g em al B)(d:TbS g em al B a)(e:TbS g em al B b):a=b:=by apply we7 (by rw[d.n,e.n]);intro r i j;have f:=wch i;have h:=wch j;apply we7 (by rw[d.w _ _ f,e.w _ _ h]);intro t k l;exact(d.c r t _ _ f (wch k)).one m (e.c r t _ _ h (wch l))
def BdS(g:jb)(em:Wb)(al B:W7)(x:W7×Int×Unit):Prop:=∃d,CdS g em al B d/\(d.1≠0->x=([],15,()))/\(d.1=0->∃a,x=(a,0,())/\TbS g em al B a)
def BdS.one{g:jb}{em:Wb}{al B:W7}{x y:W7×Int×Unit}(h:BdS g em al B x)(k:BdS g em al B y):x=y:=by obtain⟨d,b,n,c⟩:=h;obtain⟨m,i,o,j⟩:=k;have:=b.one i;subst this;by_cases e:d.1=0;{obtain⟨l,rfl,f⟩:=c e;obtain⟨p,rfl,a⟩:=j e;rw[f.one (b.nc e) a]};grind
def tbl_of{g:jb}{em:Wb}{al B:W7}{m:PM}(d:GOk g)(h:jal g em al B m):TbS g em al B (joe g.2.1.length (g.1.length+1) m):=by
 have F:=z4v d h;have a:=jk3 F;refine⟨a.n,a.w,λr t row z q s=>?_⟩;have j:=(wcl.1 s).1;rw[a.w r row q]at j;rcases a.c r t row z q s with⟨e,y,A,o⟩|⟨D,o⟩
 {obtain⟨i,l,G⟩:∃i l,e.2=i::l:=by{cases C:e.2 with|nil=>{exact absurd C (h.pm.ne e y)}|cons i l=>simp};obtain⟨k,p,rfl,f,u,_,_,v⟩:=h.pm.says e y i X;rw[A]at u v;exact .inl ⟨k,p,X,f,u.symm,v⟩};.refine .inr ⟨o,λk p f H b=>?_⟩;obtain⟨x,I,L,_⟩:=h.has k p f _ b;grind
def jlo{g:jb}{em re:Wb}{al B:W7}(k:zag g)(i:GR g)(a:GOk g)(l:Kn g em re al B):Tn (λn=>Jv n g) (BdS g em al B):=by
 obtain⟨rows,m,e,b,d⟩:=jc3 k a l;obtain⟨r,c,h⟩:=z3u d (jbw e b);refine(jt0 i a e d.pm.nd (z4v a d)).mono λx f=>⟨r.1,h,λh0=>?_,λh0=>?_⟩
 {rw[f,if_pos];unfold zlk at c;grind};.refine⟨_,?_,tbl_of a d⟩;rw[f,if_neg];intro j;unfold zlk at c;rw[j]at c;obtain⟨z,_,rfl⟩:=wct.1 c;grind
def PdL.at{g:jb}{em:Wb}{al B:W7}{r t:Nat}{l:Wa}(h:PdL g em al B (r:Int) (t:Int) g.2.2.1.length l):(l=[]->AtS g em al B r t (-1))/\∀a,a∈l->AtS g em al B r t a:=by refine⟨λe=> .inr ⟨rfl,λk p b c d=>?_⟩,λa j=>?_⟩;{have:=(h.i (k:Int)).2 ⟨k,p,rfl,(wcl.1 b).1,b,c,d⟩;grind};.obtain⟨k,p,f,_,b,c,d⟩:=(h.i a).1 j;exact .inl ⟨k,p,f,b,c,d⟩
def je3{g:jb}(D:zei g)(hz:gFd g=zd)(f:GOk g){em:Wb}{al B:W7}(R:EmX g em al)(S:Tn (λP=>Ya P g) (λo=>o=B))(i:B.length=g.2.1.length)(k:∀l∈B,RN (g.1.length+1) l):Tn (λP=>Yu P g) (BdS g em al B):=by
 have ht:=f.t;have hr:=f.r;unfold Yu;refine Waj (zbu g D) waa λb hb=>?_;have A:=hb.2 hz;subst A;refine wae rfl (Waj (z5r D hz f R S i k) waa λcd⟨x,a3,p⟩=>?_);have C:cd.1.1=x.1:=X;refine wad (λc=>Tt.pure ⟨x,p,λ_=>rfl,λh=>absurd (C.trans h) c⟩) λc=>?_;have h0:x.1=0:=by{grind};refine Waj (znw D hz f R S i k) waa λa⟨ha,O⟩=>?_;refine Tt.loop (λm s=>∃(d:Nat)(o:W7),d<=g.2.1.length/\m=g.2.1.length-d/\s=(a,(d:Int),g,o)/\o.length=d/\(∀(r:Nat)row,o[r]?=some row->row.length=g.1.length+1)/\∀r t row z,o[r]?=some row->row[t]?=some z->AtS g em al B r t z) g.2.1.length waa ⟨0,[],U,U,rfl,rfl,λr row h=>by simp at h,λr t row z h=>by simp at h⟩ λm s⟨d,o,hd,hm,w,M,v,u⟩ nx I=>?_;subst w;dsimp only;refine wad (λc=>?_) λc=>Tt.pure ⟨x,p,λh=>absurd h0 h,λ_=>⟨o,rfl,⟨X,v,u⟩⟩⟩;refine Tt.loop (λm s=>∃j n,j<=g.1.length+1/\m=g.1.length+1-j/\s=(a,(d:Int),(j:Int),g,o,n)/\n.length=j/\∀t z,n[t]?=some z->AtS g em al B d t z) (g.1.length+1) waa.fst ⟨0,[],U,U,rfl,rfl,λt z h=>by simp at h⟩ λm s⟨j,n,hj,hm,w,H,G⟩ ny L=>?_;subst w;dsimp only;refine wad (λY=>?_) λY=>?_;{refine Tt.J (λs=>∃z,s=(a,(d:Int),(j:Int),g,o,n++[z])/\AtS g em al B d j z) (λnz q=>?_) λs⟨z,w,a5⟩=>?_;{refine Waj (zq6 f ha O _ _) waa.fst.fst λl T=>wad (λZ=>?_) λZ=>?_;{have e:l=[]:=wdp U;exact wac _ (yp X U) (q _ ⟨_,rfl,T.at.1 e⟩)};.have Q:0<l.length:=U;exact Tt.at Q (wac _ (yp X U) (q _ ⟨_,rfl,T.at.2 _ (wcm Q)⟩))};.subst w;dsimp only;refine wai ?_;refine L (g.1.length+1-(j+1)) _ U ⟨j+1,n++[z],U,rfl,rfl,X,λt y hy=>?_⟩;grind}
 .have F:j=g.1.length+1:=U;refine wac _ (yp X U) (wai ?_);refine(I (g.2.1.length-(d+1)) _ U ⟨d+1,o++[n],U,rfl,rfl,X,λr row h=>?_,λr t row z h=>?_⟩).fst;all_goals
   by_cases N:r<o.length
   ·rw[wcx N]at h
    first|exact v r row h|exact u r t row z h
   ·rw[wcz U]at h;have:r=d:=by
     have:=(wcl.1 h).1;simp at this;omega
    subst this;rw[M,Nat.sub_self]at h;simp at h;subst h
    first|exact H.trans F|exact G t z
abbrev aE(d:jd):Nat->Nat->Prop:=λi j=>dE d j i
abbrev aS(d:jd):Nat->Prop:=λi=>i<d.2.2.1.length/\0<=Jb d i
def zm7{l:Wb}{i:Nat}(hi:i<l.length)(h:l[i]=false):l.set i false=l:=by rw[<- h];simp
def z3b{d:jd}(hR:Tn (λnn=>yb nn d) (λr=>r=true))(hd:DSz d)(hm:MOk d):Tn (λnn=>zau nn d) (λr=>r=zao d.2.2.1.length (aE d) (aS d)):=by
 have n0:0<d.2.2.1.length:=hm.n0;have hn:=hd.n;have hw:=hm.w;have f1:0<=d.2.1:=hw.1;have f2:d.2.1<=256:=hw.2;have b9:d.2.2.2.1.length=d.2.2.1.length:=hm.lab;unfold zau;refine Waj hR waa λr hr=>?_;subst hr;refine wae rfl (Tt.b1 (wac _ (mkN (n:=d.2.2.1.length) U U) ?_));generalize hN:d.2.2.1.length=N at n0 hn b9⊢;have c5:=z7n (replicate N false);rw[wci]at c5;refine Tt.loop (λm s=>∃(k:Nat)(a:Wb),k<=N+1/\m=N+1-k/\s=((k:Int),d,a)/\a.length=N/\(∀i,onB a i->Rch (aE d) (aS d) i)/\(a=zao N (aE d) (aS d)\/offs a+k<=N)) (N+1) waa ⟨0,_,U,U,rfl,V,λi hi=>absurd hi zxn,.inr U⟩ λm s⟨k,a,hk,e8,G,ha,d1,d0⟩ nx d6=>?_;subst G;dsimp only;rw[ha];refine wab (λc=>?_) λc=>Tt.pure ?_;rotate_left
 {grind};have c:=wcj c;refine Tt.loop (λm s=>∃(i:Nat)(b:Wb),i<=N/\m=N-i/\s=((k:Int),(i:Int),d,b)/\b.length=N/\LeB a b/\(∀i,onB b i->Rch (aE d) (aS d) i)/\(a=b->∀P,P<i->(0<=Jb d P->onB a P)/\∀j,onB a j->dE d P j->onB a P)) N waa.fst ⟨0,a,U,U,rfl,ha,LeB.refl a,d1,λ_ P h=>U⟩ λm s⟨i,b,hi,e7,G,hb,C,y,a2⟩ ny d7=>?_;subst G;dsimp only;rw[hb];refine wab (λc1=>?_) λc1=>?_
 .have c1:=wcj c1;have a3:i<N:=U;have B:i<d.2.2.1.length:=U;have f:i<b.length:=U;have b7:i<d.2.2.2.1.length:=U;have R:Jb d i=d.2.2.2.1[i]:=vk b7;have a0:=atN B;have c6:((d.2.2.1[i]).length:Int)=d.2.1:=by{have:=hm.row i U U;rw[vk (l:=d.2.2.1) B]at this;omega};have D:∀(c:Nat)(hc:c<(d.2.2.1[i]).length),nxt d i c=(d.2.2.1[i])[c]:=λc hc=>zl9 B hc;have T:∀(c:Nat)(hc:c<(d.2.2.1[i]).length), -1<=(d.2.2.1[i])[c]/\(d.2.2.1[i])[c]<d.2.2.1.length:=λc hc=>by{have : -1<=nxt d i (c:Int)/\nxt d i (c:Int)<d.2.2.1.length:=hm.nx i c U (by show(i:Int)<d.2.2.1.length;omega) U (by show(c:Int)<d.2.1;omega);rw[D c hc]at this;exact this};generalize d.2.2.1[i]=row at a0 c6 T D;refine Tt.J (λs=>∃b',s=((k:Int),(i:Int),d,b')/\b'.length=N/\LeB b b'/\(∀i,onB b' i->Rch (aE d) (aS d) i)/\(0<=Jb d i->onB b' i)) (λnz F=>?_) λs⟨b1,G,d2,x,b0,d5⟩=>?_;{refine wac _ (yj a3) (wac _ (atN f) (wab (λI=>?_) λI=>?_));{refine wac _ (yj a3) (wac _ (zr true f) (F _ ⟨_,rfl,by simpa using hb,LeB.set f,λj A=>?_,λ_=>(Qb f).2 (.inl rfl)⟩));rcases(Qb f).1 A with h|h;{subst h;exact y i (by unfold onB;rw[wch f,I])};.exact y j h};.refine wac _ (atN b7) (wac _ (yj a3) ?_);by_cases u:0<=d.2.2.2.1[i];{rw[wdg u];refine wac _ (zr true f) (F _ ⟨_,rfl,by simpa using hb,LeB.set f,λj A=>?_,λ_=>(Qb f).2 (.inl rfl)⟩);rcases(Qb f).1 A with h|h;{subst h;exact .base ⟨B,by rw[R];exact u⟩};.exact y j h};.rw[wc3 u];refine wac _ (zr false f) (F _ ⟨b,by rw[zm7 f I],hb,LeB.refl b,y,λh=>absurd (by rw[<- R];exact h) u⟩)};subst G;dsimp only;refine Tt.loop (λm s=>∃(c:Nat)(p:Wb),c<=row.length/\m=row.length-c/\s=((k:Int),(i:Int),(c:Int),d,p)/\p.length=N/\LeB b1 p/\(∀i,onB p i->Rch (aE d) (aS d) i)/\(a=p->∀Z:Nat,Z<c->∀j:Nat,nxt d i Z=j->onB a j->onB a i)) row.length waa.fst.fst ⟨0,b1,U,U,rfl,d2,LeB.refl b1,b0,λ_ Z h=>U⟩ λm s⟨c,p,hc,e6,G,a1,o,v,b5⟩ nz F=>?_;subst G;dsimp only;have g:i<p.length:=U;refine wab (λI=>?_) λI=>?_
  .have I:=wcj I;have M:c<row.length:=U;have hq:=T c M;have a4:=D c M;refine Tt.J (λs=>∃Y,s=((k:Int),(i:Int),(c:Int),d,Y)/\Y.length=N/\LeB p Y/\(∀i,onB Y i->Rch (aE d) (aS d) i)/\(∀j:Nat,nxt d i c=j->onB p j->onB Y i)) (λnu c0=>?_) λs⟨Y,G,d3,S,b4,d4⟩=>?_
   .refine Tt.J (λs=>∃t,s=((k:Int),(i:Int),(c:Int),t,d,p)/\(t=true↔∃j:Nat,nxt d i c=j/\onB p j)) (λnv c4=>?_) λs⟨t,G,ht⟩=>?_
    .refine wac _ a0 (wac _ (atN M) (Tt.b1 (wab (λu=>?_) λu=>c4 _ ⟨false,rfl,⟨λh=>(by cases h),λ⟨j,Q,_⟩=>?_⟩⟩)))
     .have u:=wcj u;obtain⟨z,hz⟩:∃z:Nat,row[c]=(z:Int):=⟨(row[c]).toNat,U⟩
      have O:z<p.length:=U;refine wac _ a0 (wac _ (atN M) ?_);rw[hz];refine wac _ (yj O) (wac _ (atN O) (c4 _ ⟨_,rfl,⟨λh=>⟨z,by rw[a4,hz],by unfold onB;rw[wch O,h]⟩,λ⟨j,Q,H⟩=>?_⟩⟩));rw[a4,hz]at Q;have:z=j:=U;subst this;unfold onB at H;rw[wch O]at H;exact wd4 H
     .have u:=wck u;rw[a4]at Q;omega
    .subst G;dsimp only;refine wab (λu=>?_) λu=>c0 _ ⟨p,rfl,a1,LeB.refl p,v,λj Q H=>by rw[ht.2 ⟨j,Q,H⟩]at u;cases u⟩;refine wac _ (yj g) (wac _ (zr true g) (c0 _ ⟨_,rfl,by simpa using a1,LeB.set g,λj A=>?_,λ_ _ _=>(Qb g).2 (.inl rfl)⟩));rcases(Qb g).1 A with h|h;{subst h;obtain⟨j,Q,H⟩:=ht.1 u;exact .step (v j H) ⟨B,c,U,by show(c:Int)<d.2.1;omega,Q⟩};.exact v j h
   .subst G;dsimp only;refine Tt.b1 ?_;rw[wI U U];refine F (row.length-(c+1)) _ U ⟨c+1,Y,U,rfl,rfl,d3,o.trans S,b4,λe Z e3 j A b8=>?_⟩;have L:a=p:=((C.trans x).trans o).antisymm (e▸S);by_cases h:Z=c;{subst h;have:=d4 j A (L▸b8);rwa [<- e]at this};.exact b5 L Z U j A b8
  .have I:=wck I;refine Tt.b1 ?_;rw[wI U U];refine(d7 (N-(i+1)) _ U ⟨i+1,p,U,rfl,rfl,a1,(C.trans x).trans o,v,λe P e5=>?_⟩).fst;have L:a=b:=C.antisymm (e▸x.trans o);have a8:a=b1:=(C.trans x).antisymm (e▸o);by_cases h:P=i;{subst h;refine⟨λh=>by have:=d5 h;rwa [<- a8]at this,λj A hE=>?_⟩;obtain⟨Q,Z,h0,H,h3⟩:=hE;obtain⟨q,rfl⟩:=wdy h0;have H:(q:Int)<d.2.1:=H;exact b5 e q U j h3 A};.exact a2 L P U
 .have c1:=wck c1;refine Tt.b1 ?_;rw[wI U U];have c8:Round (aE d) (aS d) a b:=⟨C,y,λe=>⟨λi hi=>(a2 e i (by have:=hi.1;omega)).1 hi.2,λj i A hE=>(a2 e i (by have:=hE.1;omega)).2 j A hE⟩⟩
  exact(d6 (N+1-(k+1)) _ U ⟨k+1,b,U,rfl,rfl,hb,y,c8.next ha d0⟩).fst
abbrev zS:Arr 4 Int:=⟨replicate 4 0,wci⟩
def juy(b:Nat):zyn zS b=0:=by unfold zyn;have h:∀k,zS.l.getD k 0=0:=λk=>by{grind};simp_all
def jrf(b:Nat):zk1 zS b=false:=by unfold zk1;rw[juy];rfl
def jup:zfl zS:=λk=>by grind
def finE_z(E:Nat->Nat->Bool):zwf E zS=E:=by funext a b;unfold zwf;rw[jrf,jrf];simp
def jk1{E:Nat->Nat->Bool}(h:Eqv E){a:Wd}(b:ClsAt E a 256):Tn (λd=>Z7 d a) (λr=>r=true):=by unfold Z7;refine Waj (jag h a b zS jup) waa λr c=>Tt.pure ?_;rw[finE_z]at c;rw[c.one b];simp
def z39{d:jd}{E:Nat->Nat->Bool}(h:Eqv E)(p:ClsAt E d.1 256)(N:d.2.1=((qu E 256).length:Int))(u:DSz d)(hm:MOk d)(B:∀x∈d.2.2.2.1, -1<=x):Tn (λF=>yu F d) (λb=>b=true):=by have R:=u.n;have S:=u.l;have O:=hm.n0;have z:=hm.lab;unfold yu;refine Tt.b1 (Tt.J (λs=>s=((d.2.2.1.length:Int),false,d)) (λG g=>?_) λs a=>?_);{refine Tt.b1 (wae (wc3 U) (wae (wc3 U) ?_));refine Waj (jk1 h p) waa λr A=>?_;subst A;refine wae rfl (Waj (z36 _ (zqg h p)) waa λr A=>g _ ?_);grind};subst a;refine wae rfl (Tt.J (λb=>b=true) (λG g=>?_) λs a=>Tt.pure a);refine Tt.loop (λm s=>∃k,k<=d.2.2.1.length/\m=d.2.2.1.length-k/\s=((d.2.2.1.length:Int),true,d.2.2.1,(d.2.2.1.length:Int),(k:Int),d)) d.2.2.1.length waa ⟨0,U,U,rfl⟩ λm s⟨k,L,D,a⟩ Q w=>?_;subst a;dsimp only;refine wad (λc=>?_) (λc=>g.fst _ rfl);have e:k<d.2.2.1.length:=U;have o:=atN e;have t:((d.2.2.1[k]).length:Int)=d.2.1:=by{have:=hm.row k U U;rw[vk e]at this;omega};have y:=u.r _ (wcm e);have f:∀c(p:c<(d.2.2.1[k]).length), -1<=(d.2.2.1[k])[c]/\(d.2.2.1[k])[c]<d.2.2.1.length:=λc p=>by{have : -1<=nxt d k (c:Int)/\nxt d k (c:Int)<d.2.2.1.length:=hm.nx k c U U U U;rw[zl9 e p]at this;omega};refine wac _ o ?_;generalize d.2.2.1[k]=row at o t f y;refine Tt.J (λs=>s=((d.2.2.1.length:Int),true,row,d.2.2.1,(d.2.2.1.length:Int),(k:Int),false,d)) (λH i=>?_) λs a=>?_;{refine Tt.b1 (wae (wc3 U) (Tt.at (show k<d.2.2.2.1.length by omega) (i _ ?_)));have:=B _ (wcm (show k<d.2.2.2.1.length by omega));rw[wc3 U]};subst a;refine wae rfl ?_;dsimp only;refine Tt.loop (λm s=>∃j,j<=row.length/\m=row.length-j/\s=((d.2.2.1.length:Int),true,d.2.2.1,(d.2.2.1.length:Int),(k:Int),row,(row.length:Int),(j:Int),d)) row.length waa.fst ⟨0,U,Wab,rfl⟩ λm s⟨j,I,C,a⟩ H i=>?_;subst a;dsimp only;refine wad (λc=>?_) (λc=>?_);{have q:j<row.length:=U;have M:=f j q;refine Tt.at q (Tt.J (λs=>s=((d.2.2.1.length:Int),true,d.2.2.1,(d.2.2.1.length:Int),(k:Int),row,(row.length:Int),(j:Int),false,d)) (λP v=>?_) λs a=>?_);{refine Tt.b1 (wae (wc3 U) (v _ ?_));grind};.subst a;refine wae rfl (Tt.b1 ?_);dsimp only;rw[wI U U];exact i (row.length-(j+1)) _ U ⟨j+1,U,rfl,rfl⟩};.refine wai ?_;exact(w (d.2.2.1.length-(k+1)) _ U ⟨k+1,U,rfl,rfl⟩).fst
def zeo{α:Type}(f:α->α)(l:List α)(q:Nat):List α:=(l.take q).map f++l.drop q
def jlx{α:Type}{f:α->α}{l:Wam α}{q:Nat}:(zeo f l q).length=l.length:=by unfold zeo;grind
def jq8{α:Type}{f:α->α}{l:Wam α}{q:Nat}(h:q<l.length):(zeo f l q)[q]?=some l[q]:=by unfold zeo;grind
def jj5{α:Type}{f:α->α}{l:Wam α}{q:Nat}(h:q<l.length):(zeo f l q).set q (f l[q])=zeo f l (q+1):=by unfold zeo;rw[List.set_append_right _ _ X,wcp h,wdb,wc2];simp[wc0,wfg];rw[show q-min q l.length=0 by omega,wcw h];rfl
def jgh{α:Type}{f:α->α}{l:Wam α}{q:Nat}(h:q<l.length)(e:f l[q]=l[q]):zeo f l (q+1)=zeo f l q:=by unfold zeo;rw[wcp h,wdb,wc2,wcw h,wc7,e];rfl
def mapTo_0{α:Type}{f:α->α}{l:Wam α}:zeo f l 0=l:=by simp[zeo]
def jmf{α:Type}{f:α->α}{l:Wam α}:zeo f l l.length=l.map f:=by simp[zeo]
def kpB(re al:Wb)(i:Nat):Bool:=decide (i=0) ||(re.getD i false && al.getD i false)
def keL(a:Nat->Bool)(k:Nat):List Nat:=(range k).filter a
def nuI(a:Nat->Bool)(i:Nat):Int:=if a i=true then((keL a i).length:Int)else -1
def trZ(a:Nat->Bool)(z:Int):Int:=if 0<=z then nuI a z.toNat else z
def Zt(d:jd)(a:Nat->Bool):jd:=(d.1,d.2.1,(keL a d.2.2.1.length).map (λ(i:Nat)=>(at' d.2.2.1 (i:Int)).map (trZ a)),(keL a d.2.2.1.length).map (λ(i:Nat)=>Jb d i),())
def zif(a:Nat->Bool)(k:Nat):keL a (k+1)=if a k=true then keL a k++[k]else keL a k:=by unfold keL;rw[List.range_succ,we9];grind
def zpm(a:Nat->Bool)(k:Nat):(keL a k).length<=k:=by have:=List.length_filter_le a (range k);simpa [keL]using this
def z0p{a:Nat->Bool}{k i:Nat}(h:i∈keL a k):i<k:=by have:=(wey.1 h).1;grind
structure NuI(kp:Nat->Bool)(n k:Nat)(nu:List Int):Prop where
 l:nu.length=n
 v:∀i,i<k->nu[i]?=some (nuI kp i)
def NuI.next{a:Nat->Bool}{n k:Nat}{b:Wa}(h:NuI a n k b)(d:k<n){z:Int}(hz:z=nuI a k):NuI a n (k+1) (b.set k z):=⟨by simpa using h.l,λi c=>by
 rw[wdl];by_cases e:k=i;{subst e;have:=h.l;grind};.rw[if_neg e];exact h.v i U⟩
def z7w{a:Nat->Bool}{k:Nat}(h:a k=true):nuI a k=((keL a k).length:Int):=if_pos h
def jez{a:Nat->Bool}{k:Nat}(h:a k=false):nuI a k=-1:=if_neg X
def zib{α β:Type}{l:Wam α}{f:α->β}{i:Nat}(h:i<l.length):(l.take i).map f++[f l[i]]=(l.take (i+1)).map f:=by rw[wcp h,wdb];rfl
def juk(d:jd)(S:DSz d)(hm:MOk d)(hR:Tn (λnn=>yu nn d) (· = true)):Tn (λnn=>Zj nn d) (λr=>r=Zt d (kpB (zao d.2.2.1.length (dE d) (λi=>i=0)) (zao d.2.2.1.length (aE d) (aS d)))):=by
 have s1:=S.n;have s2:=S.w;have b6:d.2.2.2.1.length=d.2.2.1.length:=hm.lab;unfold Zj;refine Waj hR waa λb' a2=>?_;subst a2;refine wae rfl ?_;refine Waj (zuu d S hR) waa λre u=>?_;refine Waj (jla d S hR) waa λB g=>?_;have u:re=zao d.2.2.1.length (dE d) (λi=>i=0):=by{rcases u with⟨h,_⟩|⟨_,_,h⟩;cases h;exact h};have g:B=zao d.2.2.1.length (aE d) (aS d):=by{rcases g with⟨h,_⟩|⟨_,_,h⟩;cases h;exact h};rw[<- u,<- g];have c6:re.length=d.2.2.1.length:=by{rw[u,ze8]};have b4:B.length=d.2.2.1.length:=by{rw[g,ze8]};clear u g;refine Tt.b1 (wac _ (mkN U U) ?_);simp only[wci];generalize (⟨replicate 256 0,wci⟩:Wd)=Z;generalize a6:kpB re B=a;refine Tt.loop (λm s=>∃(k:Nat)(A:Wa),k<=d.2.2.1.length/\m=d.2.2.1.length-k/\s=(re,B,(d.2.2.1.length:Int),(k:Int),d,Z,0,A,(keL a k).map (λ(i:Nat)=>(i:Int)),[],[])/\NuI a d.2.2.1.length k A) d.2.2.1.length waa ⟨0,_,U,U,rfl,⟨V,λi h=>U⟩⟩ λm s⟨k,A,hk,Q,y,D⟩ nx a8=>?_;subst y;dsimp only;have c4:=D.l;have a5:=zpm a k;refine wab (λc=>?_) (λc=>?_);{have c:=wcj c;have e:k<d.2.2.1.length:=U;refine Tt.J (λs=>∃(A:Wa),s=(re,B,(d.2.2.1.length:Int),(k:Int),d,Z,0,A,(keL a (k+1)).map (λ(i:Nat)=>(i:Int)),[],[])/\NuI a d.2.2.1.length (k+1) A) (λny o=>?_) λs⟨A,y,h1⟩=>?_;{refine wac _ (yj U) (wac _ (zr _ U) ?_);refine Tt.J (λs=>s=(re,B,(k:Int),(d.2.2.1.length:Int),(k:Int),a k,d,Z,0,A.set k (-1),(keL a k).map (λ(i:Nat)=>(i:Int)),[],[])) (λnz p=>?_) λs y=>?_;{have C:a k=(decide (k=0) ||(re.getD k false && B.getD k false)):=by{rw[<- a6];rfl};refine Tt.b1 (wab (λb=>p _ ?_) λb=>?_);{have b:=wcj b;have:k=0:=U;rw[C,wdg this];rfl};have b:=wck b;have P:k<re.length:=U;have O:k<B.length:=U;have er:re.getD k false=re[k]:=by{simp[List.getD,P]};have ea:B.getD k false=B[k]:=by{simp[List.getD,O]};rw[er,ea,wc3 U,Bool.false_or]at C;refine wac _ (atN P) (wab (λT=>wac _ (atN O) (p _ ?_)) λT=>p _ ?_);{rw[C,T];rfl};.rw[C,T];rfl};.subst y;dsimp only;refine wab (λb=>?_) λb=>o _ ⟨_,by rw[zif,if_neg (by rw[b];simp)],D.next e (jez b).symm⟩;refine wac _ (yj Wag) (wac _ (zr _ Wag) (wac _ (yp X U) (o _ ⟨_,by rw[zif,if_pos b,wdb];rfl,?_⟩)));rw[List.set_set];exact D.next e (by rw[z7w b];simp)};.subst y;refine Tt.b1 ?_;dsimp only;rw[wI U U];exact a8 (d.2.2.1.length-(k+1)) _ U ⟨k+1,_,U,rfl,rfl,h1⟩};have c:=wck c;have a4:k=d.2.2.1.length:=U;subst a4;obtain⟨W,hW⟩:∃W:Nat,d.2.1=(W:Int):=⟨d.2.1.toNat,U⟩
 unfold Zt;have G:∀j∈keL a d.2.2.1.length,j<d.2.2.1.length:=λj h=>z0p h;generalize keL a d.2.2.1.length=K at a5 G⊢;rw[wc0];refine Tt.loop (λm s=>∃(i:Nat),i<=K.length/\m=K.length-i/\s=((K.length:Int),(i:Int),d,Z,0,A,d.1,d.2.1,K.map (λ(i:Nat)=>(i:Int)),[],[],(K.take i).map (λ(i:Nat)=>(at' d.2.2.1 (i:Int)).map (trZ a)),(K.take i).map (λ(i:Nat)=>Jb d i))) K.length waa.fst ⟨0,U,U,rfl⟩ λm s⟨i,hi,Q,y⟩ ny o=>?_;subst y;dsimp only;refine wab (λc=>?_) (λc=>Tt.pure ?_);rotate_left
 {grind};have c:=wcj c;have e:i<K.length:=U;have N:=G _ (wcm e);have M:=zib (f:=λ(i:Nat)=>(at' d.2.2.1 (i:Int)).map (trZ a)) e;have R:=zib (f:=λ(i:Nat)=>Jb d i) e;have c1:(K.map (λ(i:Nat)=>(i:Int)))[i]?=some ((K[i]:Nat):Int):=by{simp[e]};refine wac _ (yj (by simpa using e)) (wac _ (Qg U (by assumption)) ?_);generalize K[i]=j at N M R;have x:=hm.row j U U;have a1:=atN N;have a7:=atN (l:=d.2.2.2.1) (k:=j) U;have Y:Jb d j=d.2.2.2.1[j]:=vk U;have I:∀(c:Nat)(hc:c<(d.2.2.1[j]).length), -1<=(d.2.2.1[j])[c]/\(d.2.2.1[j])[c]<d.2.2.1.length:=λc hc=>by{rw[vk (l:=d.2.2.1) N]at x;have : -1<=nxt d j (c:Int)/\nxt d j (c:Int)<d.2.2.1.length:=hm.nx j c U U U U;rw[zl9 N hc]at this;omega};simp only[vk (l:=d.2.2.1) N]at x M;rw[hW];refine wac _ (mkN (n:=W) U U) (wac _ a1 ?_);generalize d.2.2.1[j]=row at x M I;have a3:jrx (replicate W (0:Int)) row=some (((min (replicate W (0:Int)).length row.length:Nat):Int),row):=by{unfold jrx;congr 2;rw[wci,wd8 U,wds Wag,wc1]};refine wac _ a3 ?_;refine Tt.loop (λm s=>∃(q:Nat),q<=row.length/\m=row.length-q/\s=((j:Int),(K.length:Int),(i:Int),(row.length:Int),(q:Int),d,Z,0,A,d.1,(W:Int),zeo (trZ a) row q,K.map (λ(i:Nat)=>(i:Int)),[],[],(K.take i).map (λ(i:Nat)=>(at' d.2.2.1 (i:Int)).map (trZ a)),(K.take i).map (λ(i:Nat)=>Jb d i))) row.length waa.fst.fst ⟨0,U,Wab,Wab⟩ λm s⟨q,c5,Q,y⟩ nz p=>?_;subst y;dsimp only;refine wab (λc=>?_) (λc=>?_)
 .have c:=wcj c;have F:q<row.length:=U;have L:q<(zeo (trZ a) row q).length:=by{rw[jlx];omega};have a9:=I _ F;refine Tt.J (λs=>s=((j:Int),(K.length:Int),(i:Int),(row.length:Int),(q:Int),d,Z,0,A,d.1,(W:Int),zeo (trZ a) row (q+1),K.map (λ(i:Nat)=>(i:Int)),[],[],(K.take i).map (λ(i:Nat)=>(at' d.2.2.1 (i:Int)).map (trZ a)),(K.take i).map (λ(i:Nat)=>Jb d i))) (λc7 H=>?_) λs y=>?_
  .refine wac _ (yj L) (wac _ (Qg U (by simpa using jq8 F)) ?_);refine wab (λb=>?_) λb=>H _ ?_
   .have b:=wcj b;have z:=jj5 (f:=trZ a) F;have b0:trZ a row[q]=nuI a (row[q]).toNat:=by{unfold trZ;omega};rw[b0]at z;obtain⟨t,et⟩:∃t:Nat,row[q]=(t:Int):=⟨(row[q]).toNat,U⟩
    rw[et]at a9 z⊢;refine wac _ (yj U) (wac (nuI a t) (Qg U (by simpa using D.v t U)) (wac _ (yj L) (wac _ (zr _ L) (H _ ?_))));rw[<- z];rfl
   .have b:=wck b;rw[jgh F (by unfold trZ;omega)]
  .subst y;refine Tt.b1 ?_;dsimp only;rw[wI U U];exact p (row.length-(q+1)) _ U ⟨q+1,U,rfl,rfl⟩
 .have c:=wck c;have:q=row.length:=U;subst this;rw[jmf];refine wac _ (yp X U) (wac _ a7 (wac _ (yp X U) (Tt.b1 ?_)));rw[wI U U];rw[hW]at o;rw[<- Y];exact(o (K.length-(i+1)) _ U ⟨i+1,U,rfl,X⟩).fst
def jgf(d:jd)(S:DSz d)(hm:MOk d)(hR:Tn (λnn=>yb nn d) (λr=>r=true)):Tn (λnn=>Ye nn d) (λr=>r=Zt d (kpB (zao d.2.2.1.length (dE d) (λi=>i=0)) (zao d.2.2.1.length (aE d) (aS d)))):=by
 have s1:=S.n;have s2:=S.w;have b5:=hm.lab;unfold Ye;refine Waj hR waa λb' a1=>?_;subst a1;refine wae rfl (Waj (zky hR S hm) waa λre I=>?_);refine Waj (z3b hR S hm) waa λy F=>?_;rw[<- I,<- F];have c4:re.length=d.2.2.1.length:=by{rw[I,ze8]};have b2:y.length=d.2.2.1.length:=by{rw[F,ze8]};clear I F;refine Tt.b1 (wac _ (mkN U U) ?_);generalize (⟨replicate 256 0,wci⟩:Wd)=Z;generalize a4:kpB re y=a;refine Tt.loop (λm s=>∃k o,k<=d.2.2.1.length/\m=d.2.2.1.length-k/\s=(re,y,((keL a k).length:Int),(k:Int),d,Z,0,o,[],[])/\NuI a d.2.2.1.length k o) d.2.2.1.length waa ⟨0,_,U,U,rfl,⟨V,λi h=>U⟩⟩ λm s⟨k,o,hk,Q,g,p⟩ nx a6=>?_;subst g;dsimp only;have R:=p.l;have c0:=zpm a k;rw[R];refine wab (λc=>?_) (λc=>?_);{have c:=wcj c;have G:k<d.2.2.1.length:=U;refine Tt.J (λs=>∃o,s=(re,y,((keL a (k+1)).length:Int),(k:Int),d,Z,0,o,[],[])/\NuI a d.2.2.1.length (k+1) o) (λny B=>?_) λs⟨o,g,h1⟩=>?_;{refine wac _ (yj G) (wac _ (zr _ U) ?_);refine Tt.J (λs=>s=(re,y,((keL a k).length:Int),(k:Int),a k,d,Z,0,o.set k (-1),[],[])) (λnz u=>?_) λs g=>?_;{have z:a k=(decide (k=0) ||(re.getD k false && y.getD k false)):=by{rw[<- a4];rfl};refine Tt.b1 (wab (λb=>u _ ?_) λb=>?_);{have b:=wcj b;have:k=0:=U;rw[z,wdg this];rfl};have b:=wck b;have P:k<re.length:=U;have O:k<y.length:=U;have er:re.getD k false=re[k]:=by{simp[List.getD,P]};have ea:y.getD k false=y[k]:=by{simp[List.getD,O]};rw[er,ea,wc3 U,Bool.false_or]at z;refine wac _ (atN P) (wab (λT=>wac _ (atN O) (u _ ?_)) λT=>u _ ?_);{rw[z,T];rfl};.rw[z,T];rfl};.subst g;dsimp only;refine wab (λb=>?_) λb=>B _ ⟨_,by rw[zif,if_neg (by rw[b];simp)],p.next G (jez b).symm⟩;refine wac _ (yj Wag) (wac _ (zr _ Wag) (Tt.b1 ?_));rw[wI U U];refine B _ ⟨_,by rw[zif,if_pos b,wc4];rfl,?_⟩;rw[List.set_set];exact p.next G (by rw[z7w b])};.subst g;refine Tt.b1 ?_;dsimp only;rw[wI U U];exact a6 (d.2.2.1.length-(k+1)) _ U ⟨k+1,_,U,rfl,rfl,h1⟩};have c:=wck c;have a2:k=d.2.2.1.length:=U;subst a2;obtain⟨W,hW⟩:∃W:Nat,d.2.1=(W:Int):=⟨d.2.1.toNat,U⟩
 refine Tt.loop (λm s=>∃i,i<=d.2.2.1.length/\m=d.2.2.1.length-i/\s=((i:Int),d,Z,0,o,d.1,d.2.1,[],[],(keL a i).map (λ(i:Nat)=>(at' d.2.2.1 (i:Int)).map (trZ a)),(keL a i).map (λi=>Jb d i))) d.2.2.1.length waa.fst ⟨0,U,U,rfl⟩ λm s⟨j,hi,Q,g⟩ ny B=>?_;subst g;dsimp only;rw[R];refine wab (λc=>?_) (λc=>Tt.pure ?_);rotate_left
 {have c:=wck c;have:j=d.2.2.1.length:=U;subst this;rfl};have c:=wcj c;have M:j<d.2.2.1.length:=U;have b4:=zpm a j;have L:=zif a j;refine Tt.J (λs=>s=((j:Int),d,Z,0,o,d.1,d.2.1,[],[],(keL a (j+1)).map (λ(i:Nat)=>(at' d.2.2.1 (i:Int)).map (trZ a)),(keL a (j+1)).map (λi=>Jb d i))) (λc5 e=>?_) λs g=>?_;rotate_left
 {subst g;refine Tt.b1 ?_;dsimp only;rw[wI U U];exact B (d.2.2.1.length-(j+1)) _ U ⟨j+1,U,rfl,rfl⟩};refine wac _ (yj M) (wac (nuI a j) (Qg U (by simpa using p.v j M)) (wab (λb=>e _ ?_) λb=>?_));{have b:=wcj b;rw[L,if_neg];intro h;rw[z7w h]at b;omega};have b:=wck b;have a3:a j=true:=by{cases h:a j with|true=>{rfl}|false=>rw[jez h]at b;omega};rw[if_pos a3]at L;rw[L,wdb,wdb]at e;have x:=hm.row j U U;have N:=atN M;have a5:=atN (l:=d.2.2.2.1) (k:=j) U;have Y:Jb d j=d.2.2.2.1[j]:=vk U;have D:∀(c:Nat)(hc:c<(d.2.2.1[j]).length), -1<=(d.2.2.1[j])[c]/\(d.2.2.1[j])[c]<d.2.2.1.length:=λc hc=>by{rw[vk M]at x;have : -1<=nxt d j (c:Int)/\nxt d j (c:Int)<d.2.2.1.length:=hm.nx j c U U U U;rw[zl9 M hc]at this;omega};have C:=vk M;rw[C]at x;simp only[wc7,wea,C]at e;generalize d.2.2.1[j]=row at x N D e;refine Tt.loop (λm s=>∃(q:Nat),q<=row.length/\m=row.length-q/\s=((j:Int),(q:Int),d,Z,0,o,d.1,d.2.1,(row.take q).map (trZ a),[],[],(keL a j).map (λ(i:Nat)=>(at' d.2.2.1 (i:Int)).map (trZ a)),(keL a j).map (λ(i:Nat)=>Jb d i))) row.length waa.fst.fst ⟨0,U,Wab,rfl⟩ λm s⟨q,c1,Q,g⟩ nz u=>?_;subst g;dsimp only;refine wab (λc=>?_) (λc=>?_)
 .have c:=wcj c;have H:q<row.length:=U;have a7:=D _ H;have a9:=zib (f:=trZ a) H;refine wac _ N (wac _ (atN H) ?_);refine Tt.J (λs=>s=((j:Int),(q:Int),trZ a row[q],d,Z,0,o,d.1,d.2.1,(row.take q).map (trZ a),[],[],(keL a j).map (λ(i:Nat)=>(at' d.2.2.1 (i:Int)).map (trZ a)),(keL a j).map (λ(i:Nat)=>Jb d i))) (λnv A=>?_) λs g=>?_
  .refine wab (λb=>?_) λb=>A _ ?_
   .have b:=wcj b;have a8:trZ a row[q]=nuI a (row[q]).toNat:=by{unfold trZ;omega};rw[a8]at A;obtain⟨t,et⟩:∃t:Nat,row[q]=(t:Int):=⟨(row[q]).toNat,U⟩
    rw[et]at a7 A⊢;exact wac _ (yj U) (wac (nuI a t) (Qg U (by simpa using p.v t U)) (A _ rfl))
   .have b:=wck b;rw[show trZ a row[q]=row[q] by unfold trZ;omega]
  .subst g;dsimp only;refine wac _ (yp X U) (Tt.b1 ?_);rw[wI U U,a9];exact u (row.length-(q+1)) _ U ⟨q+1,U,rfl,rfl⟩
 .have c:=wck c;have:q=row.length:=U;subst this;rw[wc8];refine wac _ (yp X U) (wac _ a5 (wac _ (yp X U) ?_));rw[<- Y];exact e.fst _ rfl
def z87{c:Prop}[Decidable c]{d:jc}(h:(if c then d else zd).1=0)(a:d.1≠0):¬c:=λk=>a X
def juc{g:jb}{i:Nat}{p:jk}(h:(zoc g i p).1=0):PrOk g p:=by unfold zoc at h;split at h;{omega};split at h;{omega};.refine⟨U,U,U,λx a=>?_⟩;obtain⟨k,b⟩:=wdd a;unfold jlq at h;exact itE_ok (zgj h (itE g x,(i:Int),(k:Int)+1,()) (wcq (i:=k) X))
def jnc{g:jb}(h:gFd g=zd):GOk g:=by have c:(gFd g).1=0:=by{rw[h]};unfold gFd at c;have a:=zgj c;simp only[wcu]at a;have b:∀p∈g.2.2.1,PrOk g p:=λp b=>by{obtain⟨i,d⟩:=wdd b;exact juc (a (zoc g i p) (.inr (.inr (.inr (.inr (.inl (wcq (by rw[zog,we5,d];rfl))))))))};have f:=z87 (a _ (.inl (wcq (i:=0) rfl))) (show(4:Int)≠0 by simp);have j:=z87 (a _ (.inl (wcq (i:=1) rfl))) (show(4:Int)≠0 by simp);have k:=z87 (a _ (.inl (wcq (i:=2) rfl))) (show(4:Int)≠0 by simp);have l:=z87 (a (zk9 g) (.inr (.inr (.inr (.inr (.inr (.inl (wcr.2 rfl)))))))) V;exact⟨U,U,U,λt e=>V8 (z8e h t e),λp h=>⟨(b p h).l0,(b p h).l1⟩,λp h=>(b p h).n,λp h=>(b p h).it,U⟩
def jso{g:jb}(a:zag g)(hz:gFd g=zd):GR g/\GOk g:=by refine⟨?_,jnc hz⟩;unfold GR Jh;exact Waj (jhs g a) waa λr b=>Tt.pure X
def jkq(g:jb):jc:=fs2 10 0 (g.1.map λx=>!zkr x.2.1) 0
abbrev cD(c:Int×Int×Int):jc:=(c.1,c.2.1,c.2.2,())
def jud(g:jb)(re mk:Wb)(c:Int×Int×Int):List jc:=[jkq g,fsF 13 re 0,fsF 14 mk 0,cD c]
structure FmA(g:jb)(em re mk:List Bool)(al B:List (List Int))(c:Int×Int×Int):Prop where
 k:KnX g em re al B
 m:mk.length=g.2.1.length/\(∀p∈g.2.2.1,mkT true mk p)/\MSn true g mk
 hM:Tn (λnn=>Yi nn g) (λr=>r=mk)
 c:CdS g em al B c
def FmA_of{g:jb}(b:zag g)(hz:gFd g=zd):∃e re mk d B c,FmA g e re mk d B c:=by obtain⟨f,a⟩:=jso b hz;obtain⟨e,re,d,B,i⟩:=KnX_of g b f a;obtain⟨mk,j,h⟩:=(jr4 g b f a).val;obtain⟨C,_,c,_,k⟩:=jcm b f a i.kn;exact⟨e,re,mk,d,B,c,i,h,j,k⟩
def jfh(d:jd)(z:DSz d)(hm:MOk d)(F:Tn (λy=>yu y d) (· = true)):Tn (λy=>Jd y d) (λr=>r.length<=300/\∀x,x∈r↔LbR d x):=by have P:=z.n;have B:=hm.lab;unfold Jd;refine Waj (zuu d z F) waa λr C=>?_;have C:r=zao d.2.2.1.length (dE d) (λi=>i=0):=X;have H:r.length=d.2.2.1.length:=by{rw[C,ze8]};refine Tt.loop (λm s=>∃k l,k<=r.length/\m=r.length-k/\s=(r,(r.length:Int),(k:Int),d,l)/\l.length<=k/\∀x,x∈l↔∃i,i<k/\onB r i/\d.2.2.2.1[i]?=some x/\0<=x) r.length waa ⟨0,_,U,Wab,rfl,V,λx=>⟨λh=>X,λ⟨i,h,_⟩=>U⟩⟩ λm s⟨k,l,L,G,j,A,q⟩ M v=>?_;subst j;dsimp only;refine wab (λc=>?_) (λc=>?_);{have c:=wcj c;have u:k<r.length:=U;have b:k<d.2.2.2.1.length:=U;have o:∀{w:Wa},(∀x,x∈w↔x∈l\/(onB r k/\d.2.2.2.1[k]?=some x/\0<=x))->∀x,x∈w↔∃i,i<k+1/\onB r i/\d.2.2.2.1[i]?=some x/\0<=x:=λ{w}h x=>by{rw[h,q];constructor;{rintro(⟨i,p,a⟩|a);{exact⟨i,U,a⟩};.exact⟨k,U,a⟩};.rintro⟨i,p,a⟩;by_cases e:i=k;{subst e;exact .inr a};.exact .inl ⟨i,U,a⟩};refine Tt.J (λs=>∃l,s=(r,(r.length:Int),(k:Int),d,l)/\l.length<=k+1/\∀x,x∈l↔∃i,i<k+1/\onB r i/\d.2.2.2.1[i]?=some x/\0<=x) (λN f=>?_) λs⟨l,j,A,q⟩=>?_;{refine Tt.at u (Tt.J (λs=>s=((k:Int),r,(r.length:Int),(k:Int),(r[k] && decide (0<=d.2.2.2.1[k])),d,l)) (λO g=>?_) λs j=>?_);{refine wab (λc=>Tt.at b (g _ ?_)) λc=>g _ ?_;{rw[c,weu]};grind};.subst j;dsimp only;refine wab (λt=>?_) λt=>f _ ⟨l,rfl,U,o λx=>⟨.inl,λh=>h.elim id λ⟨p,a,D⟩=>?_⟩⟩;{simp[wco,wc9]at t;refine Tt.at b (wac _ (yp X U) (f _ ⟨_,rfl,X,o λx=>?_⟩));rw[wcu,wcr];refine or_congr Iff.rfl ⟨λh=>?_,λ⟨p,a,D⟩=>?_⟩;{subst h;exact⟨by unfold onB;grind,wch b,t.2⟩};grind};.unfold onB at p;grind};.subst j;refine Tt.b1 ?_;dsimp only;rw[wI U U];exact v (r.length-(k+1)) _ U ⟨k+1,_,U,rfl,rfl,A,q⟩};.have c:=wck c;have I:(zeg l).length=l.length:=zpn _;refine wac _ (sm7 U) (wac _ (sm7 U) (Tt.pure ⟨?_,λx=>?_⟩));{have:=zvd (zeg l);omega};.rw[(zn6 _ (zjf _)).2,z4r,q];unfold LbR;grind
def jb9(D:jc)(b:jd)(a:W7):jd×W7×jc×Unit:=if D.1=0 then(b,a,D,())else(zD,[],D,())
def jr3{g:jb}(O:zag g)(ht:g.1.length<=12)(hz:gFd g=zd){em re mk:Wb}{al B:W7}{c:Int×Int×Int}(N:FmA g em re mk al B c){n:jl}{bd:jd×Int×Int×Unit}{lt:Wa}{tr:jd}{tb:W7×Int×Unit}(hF:Tn (λj=>zeq j g.1) (λr=>r=n))(hB:Tn (λj=>zbv j n g.2.2.2.2.1) (λr=>r=bd))(hT:bd.2.2.1=0->Tn (λj=>Jd j bd.1) (λr=>r=lt))(hl:lt.length<=1000000)(Y:bd.2.2.1=0->Tn (λj=>Zj j bd.1) (λr=>r=tr))(T:Tn (λj=>Jv j g) (λr=>r=tb)):Tn (λj=>zf j g) (λr=>r=jb9 (jy (jud g re mk c++[zqr g.1.length bd.2.2.1 lt])) tr tb.1):=by
 obtain⟨hR,o⟩:=jso O hz;have hk:=N.k;generalize a:jy (jud g re mk c++[zqr g.1.length bd.2.2.1 lt])=D;have a:jy [jkq g,fsF 13 re 0,fsF 14 mk 0,cD c,zqr g.1.length bd.2.2.1 lt]=D:=a;unfold zf;refine Tt.J (λs=>∃(Z:Wd)(z:jc)(L:jb)(d:jd)(p:W7)(q:Wa)(u:W7),s=(g,Z,z,L,d,D,p,q,u)/\(D.1=0->bd.2.2.1=0/\d=bd.1)) (λnx G=>?_) λs⟨Z,z,L,d,p,q,u,hs,R⟩=>?_
 .have b:∀{Z z L}{d:jd}{e:jc}{p q u},¬e.1=0->D=e->Tt wa0 (λi=>nx i (g,Z,z,L,d,e,p,q,u)) _:=λR l=>G _ ⟨_,_,_,_,_,_,_,by rw[l],λh=>absurd X R⟩;refine Waj (z5p g O _) waa λd1 C=>?_;rw[hz]at C;subst C;refine wae rfl (Waj (jlg O o _) waa λx hx=>?_);have hx:x=jkq g:=hx;rw[<- hx]at a;refine wad (λc=>b c ?_) λA=>?_;{rw[<- a];simp[jy];grind};have A:=wef.1 A;refine Waj (jmd o _ hk.kn.hrl hk.kn.hRe) waa λy hy=>?_;rw[<- hy]at a;refine wad (λc=>b c ?_) λI=>?_;{rw[<- a];simp[jy];rw[if_pos A,if_neg c]};have I:=wef.1 I;refine Waj (jko o _ N.m.1 N.hM) waa λw hw=>?_;rw[<- hw]at a;refine wad (λc=>b c ?_) λP=>?_;{rw[<- a];simp[jy];rw[if_pos A,if_pos I,if_neg c]};have P:=wef.1 P;refine Waj (jjq O hR o hk.kn _) waa λv⟨q5,h5,S⟩=>?_;have hq:=S.one N.c;subst hq;rw[<- show v=cD q5 from h5]at a;refine wad (λc=>b c ?_) λQ=>?_;{rw[<- a];simp[jy];grind};have Q:=wef.1 Q;have f:D=zqr g.1.length bd.2.2.1 lt:=by{rw[<- a];simp[jy];rw[if_pos A,if_pos I,if_pos P,if_pos Q];split;{rename_i h;unfold zqr at h⊢;split at h;{rename_i S;rw[if_pos S];exact(jd8 V h).symm};.cases h};rfl};refine Tt.J (λs=>∃(Z:Wd)(z:jc)(d:jd)(e:jc)(p:W7)(q:Wa)(u:W7),s=(g,Z,z,g,d,e,p,q,u)/\((e.1≠0/\D=e)\/(e.1=0/\bd.2.2.1=0/\d=bd.1))) (λny H=>?_) λs⟨Z,z,d,e,p,q,u,hs,l⟩=>?_;{refine Waj hF waa λn hn=>?_;subst hn;refine Waj hB waa λd hd=>?_;subst hd;exact wab (λc=>H _ ⟨_,_,_,_,_,_,_,rfl,.inl ⟨V,by rw[f];unfold zqr;grind⟩⟩) λc=>H _ ⟨_,_,_,_,_,_,_,rfl,.inr ⟨rfl,X,rfl⟩⟩}
  .subst hs;dsimp only;rcases l with⟨l,M⟩|⟨l,M,h7⟩
   {exact wah (wdg l) (b l M)};.subst h7;refine wae (wc3 U) (Waj (jk9 U bd.1 _ hl (hT M)) waa λe2 b4=>?_);have h8:D=e2:=by{rw[f];unfold zqr;grind};have F:=G (g,Z,z,g,bd.1,e2,p,q,u) ⟨_,_,_,_,_,_,_,by rw[h8],λ_=>⟨M,rfl⟩⟩;exact wab (λ_=>F) λ_=>F
 .subst hs;dsimp only;unfold jb9;refine wad (λc=>Tt.pure ?_) λc=>?_;{grind};have c:=wef.1 c;obtain⟨l,rfl⟩:=R c;rw[if_pos c];exact Waj T waa λt ht=>Waj (Y l) waa λm hm=>Tt.pure X
def jet{g:jb}(k:zag g)(hz:(gFd g).1≠0):Tn (λl=>zf l g) (λr=>r=(zD,[],gFd g,())):=by
 unfold zf;refine Tt.J (λs=>s.2.2.2.2.2.1=gFd g) (λn i=>?_) λs j=>?_;.exact Waj (z5p g k _) waa λm h=>(wah (wdg X) (i _ h))
 .obtain⟨a,b,c,d,e,f,x⟩:=s;dsimp only at j⊢;subst j;exact wah (wdg hz) (Tt.pure rfl)
def zbo(st:Wb)(x:Rx):Wb:=
 if x.kind=1 then false::st else if x.kind=2 then true::st else match st with
 |[]=>[]
 |b::r=>if x.kind=5\/x.kind=7 then true::r else if x.kind=6 then b::r else match r with
  |[]=>[]
  |a::r=>if x.kind=3 then(a && b)::r else(a ||b)::r
def z50(e:E):∀st,(post e).foldl zbo st=yi e::st:=by induction e with|set=>{intro st;rfl}|empty=>{intro st;rfl}|cat a b c d=>{intro st;simp[post,wd7,c,d,zbo,Qq,yi]}|alt a b c d=>{intro st;simp[post,wd7,c,d,zbo,Qq,yi]}|star a f=>{intro st;simp[post,wd7,f,zbo,Qq,yi]}|plus a f=>{intro st;simp[post,wd7,f,zbo,Qq,yi]}|opt a f=>intro st;simp[post,wd7,f,zbo,Qq,yi]
def nuB(f:jo):Bool:=f.1 && decide (f.2.1=0)
def zs0(f:jo):Prop:=f.1=true->0<=f.2.1/\f.2.1<=1099511627776
def cat_ex(a b:jo)(n:zs0 a)(o:zs0 b):Tn (λp=>Zz p a b) (λr=>zs0 r/\nuB r=(nuB a && nuB b)):=by unfold Zz;refine Tt.J (λs=>(!(a.1 && b.1))=s.1/\a=s.2.1/\b=s.2.2.1) (λj d=>?_) (λs⟨k,l,m⟩=>?_);{refine Tt.b1 (wab (λc=>d _ ⟨?_,rfl,rfl⟩) λc=>d _ ⟨?_,rfl,rfl⟩);{have:a.1=false:=by{simpa using c};simp[this]};.have:a.1=true:=by{simpa using c};simp[this]};.obtain⟨v,w,x,y⟩:=s;dsimp only at k l m⊢;subst k l m;refine wab (λc=>Tt.pure ⟨λh=>V,?_⟩) λc=>?_;{unfold nuB;cases f:a.1<;>cases e:b.1<;>simp[f,e]at c⊢};have i:a.1=true/\b.1=true:=by{simpa using c};obtain⟨q,t⟩:=n i.1;obtain⟨b1,u⟩:=o i.2;have g:∀r,r.1=true->r.2.1=min (T.w64 (a.2.1+b.2.1)) 1099511627776->zs0 r/\nuB r=(nuB a && nuB b):=λr f e=>by{rw[wI U U]at e;refine⟨λ_=>U,?_⟩;unfold nuB;grind};refine Tt.J (λs=>s.2.2.2.1=true/\s.2.2.2.2.1=min (T.w64 (a.2.1+b.2.1)) 1099511627776) (λj d=>(wab (λ_=>Waj (zme _ _) waa λ_ _=>d _ ⟨rfl,rfl⟩) λ_=>Waj (zme _ _) waa λ_ _=>d _ ⟨rfl,rfl⟩)) (λs⟨f,e⟩=>?_);.refine Tt.J (λs=>s.2.1=true/\s.2.2.1=min (T.w64 (a.2.1+b.2.1)) 1099511627776) (λj d=>?_) (λs⟨f,e⟩=>Tt.pure (g _ f e));exact wab (λ_=>Waj (zme _ _) waa λ_ _=>d _ ⟨f,e⟩) λ_=>d _ ⟨f,e⟩
def jgp(a b:jo)(g:zs0 a)(h:zs0 b):Tn (λi=>Vg i a b) (λr=>zs0 r/\nuB r=(nuB a ||nuB b)):=by unfold Vg;refine wab (λc=>Tt.pure ⟨h,?_⟩) λe=>wab (λc=>Tt.pure ⟨g,?_⟩) λf=>?_;{have:a.1=false:=by{simpa using c};unfold nuB;grind};{have:b.1=false:=by{simpa using c};unfold nuB;rw[this];simp};have e:a.1=true:=by{simpa using e};have f:b.1=true:=by{simpa using f};obtain⟨j,k⟩:=g e;obtain⟨b1,l⟩:=h f;refine Tt.J (λs=>s.1=true/\s.2.1=min a.2.1 b.2.1) (λo d=>(wab (λ_=>Waj (zme _ _) waa λ_ _=>Waj (zme _ _) waa λ_ _=>d _ ⟨rfl,rfl⟩) λ_=>Waj (zme _ _) waa λ_ _=>Waj (zme _ _) waa λ_ _=>d _ ⟨rfl,rfl⟩)) (λs⟨m,n⟩=>Tt.pure ⟨λ_=>U,?_⟩);.unfold nuB;grind
def zxh{α:Type}{l:Wam α}(h:l.length=1):∃a,l=[a]:=by
 match l,h with
 |[a],_=>simp
def jjd{α:Type}{l:Wam α}(h:l.length=2):∃a b,l=[a,b]:=by
 match l,h with
 |[a,b],_=>simp
def jq4(x:jh)(l:Wam jo)(n:Nat)(e:arK x.1=some n)(m:l.length=n)(k:∀f∈l,zs0 f):Tn (λO=>Qz O x l) (λr=>zs0 r/\∀st,zbo ((l.map nuB).reverse++st) (qt x)=nuB r::st):=by
 have p:(qt x).kind=x.1:=rfl;have h0:zs0 (true,0,0,false,⟨replicate 4 0,wci⟩,⟨replicate 4 0,wci⟩,()):=λ_=>⟨V,V⟩
 unfold Qz;refine wab (λc=>?_) λA=>?_;{have c:=wcj c;rw[c]at e;cases e;have:=wew.1 m;subst this;refine wab (λ_=>Tt.pure ⟨λh=>V,λst=>?_⟩) λ_=>Tt.pure ⟨λ_=>⟨V,V⟩,λst=>?_⟩;{unfold zbo;rw[p,if_pos c];rfl};.unfold zbo;rw[p,if_pos c];rfl};have A:=wck A;refine wab (λc=>?_) λB=>wab (λc=>?_) λC=>wab (λc=>?_) λD=>?_;{have c:=wcj c;rw[c]at e;cases e;obtain⟨a,b,rfl⟩:=jjd m;refine wac a rfl (wac b rfl (Waj (cat_ex a b (k _ V) (k _ V)) waa λr⟨i,j⟩=>Tt.pure ⟨i,λst=>?_⟩));rw[j];unfold zbo;grind};{have c:=wcj c;rw[c]at e;cases e;obtain⟨a,b,rfl⟩:=jjd m;refine wac a rfl (wac b rfl (Waj (jgp a b (k _ V) (k _ V)) waa λr⟨i,j⟩=>Tt.pure ⟨i,λst=>?_⟩));rw[j];unfold zbo;grind};{have c:=wcj c;rw[c]at e;cases e;obtain⟨a,rfl⟩:=zxh m;refine wac a rfl (Waj (jgp _ a h0 (k _ V)) waa λr⟨i,j⟩=>Tt.pure ⟨i,λst=>?_⟩);rw[j];unfold zbo;rw[p,c];rfl};.have B:=wck B;have C:=wck C;have D:=wck D;refine Tt.J (λs=>l=s.1/\decide (x.1=5\/x.1=6)=s.2.1/\x=s.2.2.1/\(true,0,0,false,⟨replicate 4 0,wci⟩,⟨replicate 4 0,wci⟩,())=s.2.2.2.2) (λG d=>?_) (λs⟨u,v,H,I⟩=>?_);{refine Tt.b1 (wab (λc=>d _ ⟨rfl,?_,rfl,rfl⟩) λc=>Tt.b1 (d _ ⟨rfl,?_,rfl,rfl⟩));{grind};grind};.obtain⟨Q,R,S,T,Y⟩:=s;dsimp only at u v H I⊢;subst u v H I;refine wab (λc=>?_) λc=>?_;{have c:=wcj c;have w:n=1:=by{rcases c with c|c<;>(rw[c]at e;cases e;rfl)};subst w;obtain⟨a,rfl⟩:=zxh m;have F:=k a V;refine wac a rfl (Tt.J (λs=>x=s.1/\(true,0,0,false,⟨replicate 4 0,wci⟩,⟨replicate 4 0,wci⟩,())=s.2.2.1/\zs0 s.2.2.2/\nuB s.2.2.2=nuB a) (λG d=>wab (λ_=>d _ ⟨rfl,rfl,F,rfl⟩) λ_=>d _ ⟨rfl,rfl,F,rfl⟩) (λs⟨u,v,y,q⟩=>?_));obtain⟨Z,z,t,o⟩:=s;dsimp only at u v y q⊢;subst u v;refine Tt.J (λs=>zs0 s.2/\∀st,zbo ((([a]:Wam jo).map nuB).reverse++st) (qt x)=nuB s.2::st) (λG d=>?_) (λs N=>Tt.pure N);refine wab (λg=>Waj (jgp _ o h0 y) waa λr⟨i,j⟩=>d _ ⟨i,λst=>?_⟩) λg=>d _ ⟨y,λst=>?_⟩;{have g:=wcj g;rw[j];unfold zbo;rw[p,g];rfl};.have g:=wck g;have P:=c.resolve_left g;rw[q];unfold zbo;grind};.have c:=wck c;have M:x.1=2/\n=0:=by{unfold arK at e;grind};obtain⟨L,rfl⟩:=M;have:=wew.1 m;subst this;refine Tt.pure ⟨h0,λst=>?_⟩;unfold zbo;rw[p,L];rfl
def jkd(l:Wam jh)(y:Y3 l=0):Tn (λS=>Y1 S l) (λr=>nuB r=yi (qr l)):=by have G:=V8 y;unfold Y1;refine Tt.J (λs=>nuB s.2=yi (qr l)) (λnw C=>?_) (λs i=>Tt.pure i);refine Waj (jf1 l (by have:=G.2;omega)) waa λe H=>?_;rw[y]at H;subst H;obtain⟨q,F⟩:=G;refine wae rfl (Tt.loop (λm s=>∃k f st,k<=l.length/\m=l.length-k/\s=(l,(l.length:Int),(k:Int),f,st)/\zk2 (l.take k) 0=some st.length/\st.length<=k/\(∀f∈st,zs0 f)/\((l.take k).map qt).foldl zbo []=(st.map nuB).reverse) l.length waa ⟨0,_,[],U,U,rfl,rfl,V,V,rfl⟩ λm s⟨k,f,st,Y,Z,i,z,R,B,d⟩ nx D=>?_);subst i;dsimp only;refine wab (λc=>?_) (λc=>?_);{have c:=wcj c;have j:k<l.length:=U;obtain⟨n,g,P,O⟩:=zsn q j z;have L:((l.take (k+1)).map qt).foldl zbo []=zbo (st.map nuB).reverse (qt l[k]):=by{rw[wcp j,wdb,wd7,d];rfl};refine wac _ (atN j) (Tt.J (λs=>s=((n:Int),l,(l.length:Int),(k:Int),f,st,l[k])) (λny o=>?_) (λs i=>?_));{refine Tt.J (λs=>∃b,s=(0,l,(l.length:Int),(k:Int),(l[k]).1,b,f,st,l[k])/\(b=true↔((l[k]).1=3\/(l[k]).1=4))) (λnz u=>?_) (λs⟨b,i,p⟩=>?_);{refine Tt.b1 (wab (λc=>u _ ⟨_,rfl,?_⟩) (λc=>Tt.b1 (u _ ⟨_,rfl,?_⟩)));{have:=wcj c;simp[this]};.have:=wck c;simp[this]};.subst i;dsimp only;refine wab (λc=>o _ ?_) (λc=>?_);{have:=p.1 c;rw[arK,if_pos this]at g;cases g;rfl};.have x:¬((l[k]).1=3\/(l[k]).1=4):=λh=>by{rw[p.2 h]at c;cases c};refine Tt.J (λs=>∃b,s=(0,l,(l.length:Int),(k:Int),b,f,st,l[k])/\(b=true↔((l[k]).1=5\/(l[k]).1=6\/(l[k]).1=7))) (λnu d=>?_) (λs⟨b,i,p⟩=>?_);{refine Tt.b1 (wab (λc=>d _ ⟨_,rfl,?_⟩) (λc=>Tt.b1 (wab (λv=>d _ ⟨_,rfl,?_⟩) (λv=>Tt.b1 (d _ ⟨_,rfl,?_⟩)))));{have:=wcj c;simp[this]};{have:=wcj v;simp[this]};.have w:=wck c;have N:=wck v;simp[w,N]};.subst i;dsimp only;rw[arK,if_neg x]at g;refine wab (λc=>o _ ?_) (λc=>o _ ?_);{rw[if_pos (p.1 c)]at g;cases g;rfl};.rw[if_neg (λh=>by rw[p.2 h]at c;cases c)]at g;split at g<;>cases g;rfl};.subst i;dsimp only;refine Tt.b1 ?_;rw[wI U U];have M:(st.length:Int)-(n:Int)=((st.length-n:Nat):Int):=U;rw[M];refine wac (st.length-n) (by unfold zrh;simp) ?_;have A:(st.drop (st.length-n)).length=n:=X;refine wac _ (yp X U) ?_;rw[web];refine Waj (jq4 _ _ n g A λf I=>B f (wfe I)) waa.fst λr⟨r1,r2⟩=>?_;refine wac (st.take (st.length-n)) (by unfold zaq;simp) (wac _ (yp X U) (Tt.b1 ?_));rw[wI U U];have T:(st.take (st.length-n)++[r]).length=st.length-n+1:=V;refine D (l.length-(k+1)) _ U ⟨k+1,f,_,U,rfl,rfl,X,U,λf I=>?_,?_⟩;{grind};.have Q:st.map nuB=(st.take (st.length-n)).map nuB++(st.drop (st.length-n)).map nuB:=V;grind};.have c:=wck c;have t:k=l.length:=U;rw[t,wc8,q]at z;rw[t,wc8,zlj y,z50]at d;have w:=(wd4 z).symm;obtain⟨a,rfl⟩:=zxh w;refine wac _ (yj V) (wac a rfl (C.fst _ ?_));grind
def jey{l:Wam jh}(a:Y3 l=0):zkr l=yi (qr l):=by have d:Tn (λh=>yn h l) (λx=>x=yi (qr l)):=by{unfold yn;refine Tt.bind ?_ λz hz=>Tt.pure hz;unfold Y5;refine Waj (jkd l a) waa λr b=>wab (λc=>Tt.pure ?_) λc=>Tt.pure ?_;{have c:r.1=false:=X;rw[<- b];unfold nuB;grind};.have c:r.1=true:=X;rw[<- b];unfold nuB;grind};have e:=jdj l (by have:=(V8 a).2;omega);obtain⟨r,⟨N,f⟩,rfl⟩:=d;obtain⟨s,⟨M,g⟩,rfl⟩:=e;exact wd4 ((g (N+M) U).symm.trans (f (N+M) U))
def of7(i:Nat)(c:Int):Vn i c=some (ofK c):=by unfold Vn J ofK;simp only[ja,ifB,ifD];by_cases a:c=1;{subst a;rfl};by_cases b:c=2;{subst b;rfl};by_cases d:c=3;{subst d;rfl};by_cases e:c=4;{subst e;rfl};by_cases f:c=5;{subst f;rfl};by_cases g:c=6;{subst g;rfl};by_cases h:c=7;{subst h;rfl};simp[a,b,d,e,f,g,h]
abbrev mx(b:Bool):List (List Bool):=[[b]]
def wao{α:Type}{f:Nat->Wal α}{r:α}(k:Nat)(h:∀n,f (n+k)=some r):Tn f (λx=>x=r):=⟨r,⟨k,λn a=>by
 obtain⟨m,rfl⟩:=Nat.exists_eq_add_of_le' a;grind⟩,rfl⟩
def e_same:Tn (λa=>zj8 a []) (λx=>x=mx true):=wao 8 λn=>Wab
def e_set(a:We):Tn (λb=>zlo b a []) (λx=>x=mx false):=wao 8 λn=>Wab
def jdt(a b:Bool):Tn (λc=>Z9 c (mx a) (mx b) []) (λx=>x=mx (a ||b)):=wao 8 λn=>by cases a<;>cases b<;>kernel_rfl
def jpu(a b:Bool):Tn (λc=>zb5 c (mx a) (mx b) []) (λx=>x=mx (a && b)):=wao 8 λn=>by cases a<;>cases b<;>kernel_rfl
def jja(a:Bool):Tn (λb=>zdz b (mx a) []) (λx=>x=mx a):=wao 12 λn=>by cases a<;>kernel_rfl
def ofK_ar{z:Int}{n:Nat}(h:arK z=some n):ofK z=(n:Int):=by unfold arK at h;unfold ofK;grind
def jsg(l:Wam jh)(hc:Y3 l=0):Tn (λY=>zdv Y l []) (λr=>r=mx (yi (qr l))):=by
 have hW:=V8 hc;obtain⟨M,Z⟩:=hW;unfold zdv;refine Tt.loop (λm s=>∃k st,k<=l.length/\m=l.length-k/\s=(l,[],(k:Int),st.map mx)/\zk2 (l.take k) 0=some st.length/\st.length<=k/\((l.take k).map qt).foldl zbo []=st.reverse) l.length waa ⟨0,[],U,rfl,rfl,Wab,V,rfl⟩ ?_;rintro _ _ ⟨k,st,hk,rfl,rfl,R,a8,G⟩ nx T;dsimp only;refine wab (λc=>?_) (λc=>?_)
 .have c:=wcj c;have w:k<l.length:=U;obtain⟨n,o,a6,S⟩:=zsn M w R;have O:((l.take (k+1)).map qt).foldl zbo []=zbo st.reverse (qt l[k]):=by{rw[wcp w,wdb,wd7,G];rfl};have t:(qt l[k]).kind=(l[k]).1:=rfl;have P:∀b,zbo st.reverse (qt l[k])=b::(st.take (st.length-n)).reverse->Tt wa0.mul (λp=>ja (zaq (st.map mx) ((st.length-n:Nat):Int)) λr=>ja (apO 24 [] r) λs=>ja (apO 24 s [mx b]) λu=>ja (some (w64 ((k:Int)+1))) λv=>nx p (l,[],v,u)) (λr=>r=mx (yi (qr l))):=λb Q=>by{refine wac (st.map mx |>.take (st.length-n)) (by unfold zaq;simp) (wac _ (yp X U) (wac _ (yp X U) (Tt.b1 ?_)));rw[wI U U];refine T (l.length-(k+1)) _ U ⟨k+1,st.take (st.length-n)++[b],U,rfl,V,by rw[S];simp,X,?_⟩;rw[O,Q];simp};refine wac _ (atN w) (Waj (wao (f:=λY=>Vn Y (l[k]).1) 0 λm=>of7 m (l[k]).1) waa.fst λq hq=>?_);rw[ofK_ar o]at hq;subst hq;refine Tt.b1 ?_;have ez:w64 (((st.map mx).length:Int)-(n:Int))=((st.length-n:Nat):Int):=by{rw[wI U X];grind};rw[ez];refine Waj e_same waa.fst λm e=>?_;subst e;refine wac _ (atN w) ?_;refine Tt.J (λs=>∃b,s=(l,[],(k:Int),((st.length-n:Nat):Int),mx b,st.map mx)/\zbo st.reverse (qt l[k])=b::(st.take (st.length-n)).reverse) (λny g=>?_) (λs⟨b,hs,Q⟩=>by subst hs;exact P b Q);have two:n=2->∃a b r,st=r++[a,b]/\st.take (st.length-n)=r/\(st.map mx)[st.length-n]?=some (mx a)/\(st.map mx)[st.length-n+1]?=some (mx b):=λh=>by
   subst h;rcases List.eq_nil_or_concat st with h|⟨r,b,h⟩
   {grind}
   .rcases List.eq_nil_or_concat r with I|⟨r2,a,I⟩
    {grind};.refine⟨a,b,r2,X,by subst I;subst h;simp,?_,?_⟩;{subst I;subst h;simp};.subst I;subst h;simp
  have one:n=1->∃a r,st=r++[a]/\st.take (st.length-n)=r/\(st.map mx)[st.length-n]?=some (mx a):=λh=>by
   subst h;rcases List.eq_nil_or_concat st with h|⟨r,b,h⟩
   {grind};grind
  have zero:n=0->(st.take (st.length-n)).reverse=st.reverse:=λh=>by{subst h;simp};have d:∀{j:Nat}{x:W8},(st.map mx)[j]?=some x->jq (st.map mx).length (j:Int)=some (j:Int)/\atL (st.map mx) (j:Int)=some x:=λ{j x}h=>⟨yj (wcl.1 h).1,Qg U (by assumption)⟩
  have w1:w64 (((st.length-n:Nat):Int)+1)=((st.length-n+1:Nat):Int):=by{rw[wI U U];rfl};refine wab (λH=>?_) λH=>?_;{have H:=wcj H;have h0:n=0:=by{rw[H]at o;cases o;rfl};refine wac _ (atN w) (Waj (e_set _) waa.fst λm e=>?_);subst e;exact g _ ⟨false,rfl,by rw[zero h0];unfold zbo;grind⟩};have H:=wck H;refine wab (λA=>?_) λA=>?_;{have A:=wcj A;obtain⟨a,b,r,y,z,i,L⟩:=two (by rw[A]at o;cases o;rfl);refine wac _ (d i).1 (wac _ (d i).2 ?_);rw[w1];refine wac _ (d L).1 (wac _ (d L).2 (Waj (jpu a b) waa.fst λm e=>?_));subst e;exact g _ ⟨a && b,rfl,by rw[z,y];unfold zbo;rw[t,A];simp⟩};have A:=wck A;refine wab (λB=>?_) λB=>?_;{have B:=wcj B;obtain⟨a,b,r,y,z,i,L⟩:=two (by rw[B]at o;cases o;rfl);refine wac _ (d i).1 (wac _ (d i).2 ?_);rw[w1];refine wac _ (d L).1 (wac _ (d L).2 (Waj (jdt a b) waa.fst λm e=>?_));subst e;exact g _ ⟨a ||b,rfl,by rw[z,y];unfold zbo;rw[t,B];simp⟩};have B:=wck B;refine wab (λF=>?_) λF=>?_;{have F:=wcj F;obtain⟨a,r,y,z,i⟩:=one (by rw[F]at o;cases o;rfl);refine wac _ (d i).1 (wac _ (d i).2 (Waj (jdt true a) waa.fst λm e=>?_));subst e;exact g _ ⟨true ||a,rfl,by rw[z,y];unfold zbo;rw[t,F];simp⟩};have F:=wck F;refine wab (λD=>?_) λD=>?_;{have D:=wcj D;obtain⟨a,r,y,z,i⟩:=one (by rw[D]at o;cases o;rfl);refine wac _ (d i).1 (wac _ (d i).2 (Waj (jja a) waa.fst λm e=>?_));subst e;exact g _ ⟨a,rfl,by rw[z,y];unfold zbo;rw[t,D];simp⟩};have D:=wck D;refine wab (λC=>?_) λC=>?_;{have C:=wcj C;obtain⟨a,r,y,z,i⟩:=one (by rw[C]at o;cases o;rfl);refine wac _ (d i).1 (wac _ (d i).2 (Waj (jja a) waa.fst λm e=>?_));subst e;refine Waj (jdt true a) waa.fst λm e=>?_;subst e;exact g _ ⟨true ||a,rfl,by rw[z,y];unfold zbo;rw[t,C];simp⟩};have C:=wck C;have I:(l[k]).1=2/\n=0:=by{unfold arK at o;grind};exact g _ ⟨true,rfl,by rw[zero I.2];unfold zbo;grind⟩
 .have c:=wck c;have N:k=l.length:=U;rw[N,wc8,M]at R;rw[N,wc8,zlj hc,z50]at G;have h1:=(wd4 R).symm;obtain⟨a,rfl⟩:=zxh h1;simp at G;refine wac _ (yj V) (wac (mx a) rfl (Tt.pure X))
def jv5{l:Wam jh}(a:Y3 l=0):Tn (λf=>zfy f l []) (λb=>b=zkr l):=by
 have o:=(V8 a).2;rw[jey a];unfold zfy;refine Tt.bind (R:=λr=>r=if yi (qr l)=true then [0]else []) (Tt.call (?_:Tn (λf=>zcb f l [] 0) _) waa) λr j=>?_
 .unfold zcb;refine Tt.J (λs=>s=(l,[],0,false,[])) (λp e=>?_) (λs k=>?_);{refine Waj (zi4 l U) waa λc h=>?_;rw[a]at h;subst h;exact Tt.b1 (wae rfl (wae rfl (e _ rfl)))}
  .subst k;refine wae rfl (Waj (jsg l a) waa λg i=>?_);subst i;refine wac [yi (qr l)] rfl ?_;cases yi (qr l)
   .exact⟨_,⟨8,λn d=>by
     obtain⟨m,rfl⟩:=Nat.exists_eq_add_of_le' d;rfl⟩,rfl⟩
   .exact⟨_,⟨8,λn d=>by
     obtain⟨m,rfl⟩:=Nat.exists_eq_add_of_le' d;rfl⟩,rfl⟩
 .subst j;cases yi (qr l);{exact Tt.pure rfl};.exact Tt.pure rfl
def jbq{a:Int}{l:Wb}{k:Nat}(b:k<l.length)(h:fsF a l 0=fsF a (l.drop k) k):(l[k]=true->fsF a l 0=fsF a (l.drop (k+1)) (k+1))/\(l[k]=false->fsF a l 0=(a,(k:Int),0,())):=by rw[wcw b]at h;refine⟨λe=>?_,λe=>?_⟩;{rw[h,e];rfl};.rw[h,e];rfl
def jfr{g:jb}(P:zei g)(Y:g.1.length<=12)(hz:gFd g=zd){re mk:Wb}{c:Int×Int×Int}(N:Tn (λh=>zk h g) (λr=>r=re))(R:re.length=g.2.1.length)(M:Tn (λh=>Y0 h g) (λr=>r=mk))(Q:mk.length=g.2.1.length)(L:Tn (λh=>Vj h g) (λr=>r.1=cD c))(S:c.1=0->cD c=zd):Tn (λh=>Yj h g) (λd=>d=jy (jud g re mk c)):=by have z:=jnc hz;have T:=z.r;have l:=z8e hz;unfold Yj jud;simp[jy];refine Waj (zk7 g P) waa λd C=>?_;rw[hz]at C;subst C;refine wae rfl (Tt.loop (λm s=>∃k,k<=g.1.length/\m=g.1.length-k/\s=((k:Int),g,(0,0,0,()))/\jkq g=fs2 10 0 ((g.1.drop k).map λx=>!zkr x.2.1) k) g.1.length waa ⟨0,U,Wab,rfl,rfl⟩ λm s⟨k,D,F,n,a⟩ J v=>?_);subst n;dsimp only;refine wad (λG=>?_) λG=>?_;{have f:k<g.1.length:=U;rw[wcw f,wc7]at a;refine Tt.at f (Waj (jv5 (l _ (wcm f))) waa.fst λb O=>?_);subst O;refine wab (λj=>Tt.pure ?_) λj=>Tt.b1 ?_;{rw[j]at a;have e:jkq g=(10,(k:Int),0,()):=a;grind};.rw[j]at a;rw[wI U U];exact v (g.1.length-(k+1)) _ U ⟨k+1,U,rfl,rfl,a⟩};have q:(jkq g).1=0:=by{rw[a,wds U];rfl};rw[if_pos q];refine Waj N waa.fst λr B=>Waj M waa.fst λi u=>?_;subst B u;refine Tt.loop (λm s=>∃k,k<=g.2.1.length/\m=g.2.1.length-k/\s=(r,i,(k:Int),g,(0,0,0,()))/\fsF 13 r 0=fsF 13 (r.drop k) k) g.2.1.length waa.fst ⟨0,U,Wab,rfl,rfl⟩ λm s⟨k,D,F,n,a⟩ ny w=>?_;subst n;dsimp only;refine wad (λj=>?_) λj=>?_;{have f:k<r.length:=U;obtain⟨p,I⟩:=jbq f a;refine Tt.at f (wab (λo=>Tt.pure ?_) λo=>Tt.b1 ?_);{grind};.rw[wI U U];exact w (g.2.1.length-(k+1)) _ U ⟨k+1,U,rfl,rfl,p (by simpa using o)⟩};have A:(fsF 13 r 0).1=0:=by{rw[a,wds U];rfl};rw[if_pos A];refine Tt.loop (λm s=>∃k,k<=g.2.1.length/\m=g.2.1.length-k/\s=(i,(k:Int),g,(0,0,0,()))/\fsF 14 i 0=fsF 14 (i.drop k) k) g.2.1.length waa.fst.fst ⟨0,U,Wab,rfl,rfl⟩ λm s⟨k,D,F,n,a⟩ nz y=>?_;subst n;dsimp only;refine wad (λo=>?_) λo=>?_;{have f:k<i.length:=U;obtain⟨p,I⟩:=jbq f a;refine Tt.at f (wab (λH=>Tt.pure ?_) λH=>Tt.b1 ?_);{grind};.rw[wI U U];exact y (g.2.1.length-(k+1)) _ U ⟨k+1,U,rfl,rfl,p X⟩};.have t:(fsF 14 i 0).1=0:=by{rw[a,wds U];rfl};rw[if_pos t];refine Waj L waa.fst.fst.fst λx Z=>Tt.pure ?_;grind
def jg7{g:jb}(ht:g.1.length<=12){P:Wam jc}{n:jl}{bd:jd×Int×Int×Unit}{lt:Wa}{D:jd}{C:W7×Int×Unit}(L:Tn (λf=>Yj f g) (λd=>d=jy P))(I:Tn (λf=>zcm f g.1) (λr=>r=n))(H:Tn (λf=>zaw f n g.2.2.2.2.1) (λr=>r=bd))(M:bd.2.2.1=0->Tn (λf=>yv f bd.1) (λr=>∀x,x∈r↔x∈lt))(v:bd.2.2.1=0->Tn (λf=>yv f bd.1) (λr=>r.length<=1000000))(w:bd.2.2.1=0->Tn (λf=>Ye f bd.1) (λr=>r=D))(u:Tn (λf=>Yu f g) (λr=>r=C)):Tn (λf=>Ql f g) (λr=>r=jb9 (jy (P++[zqr g.1.length bd.2.2.1 lt])) D C.1):=by rw[vy];unfold Ql jb9;refine Waj L waa λd O=>?_;rw[<- O];refine wad (λc=>Tt.pure ?_) λc=>?_;{grind};have c:=wef.1 c;rw[if_pos c];refine Waj I waa λn' R=>?_;subst R;refine Waj H waa λb N=>?_;subst N;refine wad (λj=>Tt.pure ?_) λj=>?_;{have e:jy [zqr g.1.length b.2.2.1 lt]=(16,0,0,()):=by{unfold zqr;rw[if_neg j];rfl};rw[e];rfl};have j:=wef.1 j;have e:jy [zqr g.1.length b.2.2.1 lt]=fs2 13 1 ((range g.1.length).map λ(i:Nat)=>decide ((i:Int)∈lt)) 0:=by{unfold zqr;rw[if_pos j];simp only[jy];split;{rename_i h;exact(jd8 V h).symm};rfl};rw[e];refine Waj (wby (M j) (v j)) waa λl⟨Q,y⟩=>?_;generalize T:((range g.1.length).map λ(i:Nat)=>decide ((i:Int)∈lt))=q;have Y:q.length=g.1.length:=X;have A:∀i(h:i<q.length),q[i]=decide ((i:Int)∈l):=λi h=>by{have G:decide ((i:Int)∈l)=decide ((i:Int)∈lt):=by{rw[decide_eq_decide];exact Q _};rw[G];simp[<- T]};refine Tt.loop (λm s=>∃i,i<=g.1.length/\m=g.1.length-i/\s=(l,(i:Int),g,⟨replicate 256 0,wci⟩,0,(0,0,0,()),b.1,[],[])/\fs2 13 1 q 0=fs2 13 1 (q.drop i) i) g.1.length waa ⟨0,U,Wab,rfl,rfl⟩ λm s⟨i,hi,hm,J,a⟩ nx z=>?_;subst J;dsimp only;refine wad (λF=>?_) λF=>?_;{have p:i<q.length:=U;rw[wcw p,A i p]at a;refine Waj (zdf l _ y) waa.fst λo S=>?_;rw[<- S]at a;refine wab (λk=>Tt.pure ?_) λk=>Tt.b1 ?_;{have k:o=false:=X;rw[k]at a;rw[a];rfl};.have k:o=true:=X;rw[k]at a;rw[wI U U];exact z (g.1.length-(i+1)) _ U ⟨i+1,U,rfl,rfl,a⟩};.rw[wds U]at a;rw[a];exact Waj u waa.fst λt B=>Waj (w j) waa.fst λr Z=>Tt.pure (by rw[B,Z];rfl)
def z63{g:jb}(e:zei g)(hz:(gFd g).1≠0):Tn (λb=>Ql b g) (λr=>r=(zD,[],gFd g,())):=by have c:Tn (λb=>Yj b g) (λd=>d=gFd g):=by{unfold Yj;refine Waj (zk7 g e) waa λd a=>?_;subst a;exact wah (wdg hz) (Tt.pure rfl)};unfold Ql;refine Waj c waa λd a=>?_;subst a;exact wah (wdg hz) (Tt.pure rfl)
def jt2{d:jd}{a:Nat->Bool}(b:DSz d):(Zt d a).2.2.1.length<=1000000/\(∀l∈(Zt d a).2.2.1,l.length<=1000000)/\(Zt d a).2.2.2.1.length<=1000000:=by have f:=b.n;have g:=zpm a d.2.2.1.length;unfold Zt;refine⟨X,λl e=>?_,X⟩;obtain⟨i,c,rfl⟩:=wc6.1 e;have h:=z0p c;have j:=b.r _ (zg3 (z:=(i:Int)) U U);grind
def jtv{a:Nat->Bool}(h0:a 0=true):∀{N:Nat},0<N->0<(keL a N).length
 |N+1,_=>by have:0∈keL a (N+1):=by{unfold keL;grind};grind
def jq0{a:Nat->Bool}{N:Nat}:∀{i:Nat},i<N->a i=true->(keL a i).length<(keL a N).length:=by intro i b c;induction N with|zero=>{omega}|succ N d=>rw[zif];grind
def jo0{d:jd}{a:Nat->Bool}(m:DSz d)(hm:MOk d)(h0:a 0=true):DSz (Zt d a)/\MOk (Zt d a):=by
 have x:=m.n;have v:=hm.n0;have y:=zpm a d.2.2.1.length;have f:∀i,0<=i->i<((Zt d a).2.2.1.length:Int)->∃j,j<d.2.2.1.length/\at' (Zt d a).2.2.1 i=(at' d.2.2.1 (j:Int)).map (trZ a):=λi h b=>by
  obtain⟨n,rfl⟩:∃n:Nat,i=(n:Int):=⟨i.toNat,U⟩
  have k:n<(Zt d a).2.2.1.length:=U;rw[vk k];unfold Zt at k⊢;simp[wc0]at k;simp[List.getElem_map];exact⟨_,z0p (wcm k),rfl⟩
 refine⟨⟨m.c,m.w,?_,?_,λl o=>?_⟩,⟨?_,?_,m.w,λi h b=>?_,λi c h b s g=>?_⟩⟩;{unfold Zt;grind};{unfold Zt;grind};{unfold Zt at o;obtain⟨i,h,rfl⟩:=wc6.1 o;have A:=z0p h;rw[wc0];exact m.r _ (zg3 U U)};{unfold Zt;simp[wc0];exact jtv h0 v};{unfold Zt;simp};{obtain⟨j,t,e⟩:=f i h b;rw[e,wc0];exact hm.row (j:Int) U U}
 .obtain⟨j,t,e⟩:=f i h b;have g:c<d.2.1:=g;have B:=hm.row (j:Int) U U;have p:=hm.nx (j:Int) c U U s g;obtain⟨n,rfl⟩:∃n:Nat,c=(n:Int):=⟨c.toNat,U⟩
  have k:n<(at' d.2.2.1 (j:Int)).length:=U;rw[e,vk X,List.getElem_map];rw[vk k]at p;generalize (at' d.2.2.1 (j:Int))[n]=z at p;have q:(Zt d a).2.2.1.length=(keL a d.2.2.1.length).length:=by{unfold Zt;simp};rw[q];unfold trZ;by_cases hz:0<=z;{rw[if_pos hz];unfold nuI;split;{rename_i u;have:=jq0 (N:=d.2.2.1.length) U u;omega};omega};omega
def jus{d:jd}{E:Nat->Nat->Bool}(h:Eqv E)(n:ClsAt E d.1 256)(o:d.2.1=((qu E 256).length:Int))(c:DSz d)(hm:MOk d){m:Nat}(s:m<=1000000)(g:∀x∈d.2.2.2.1, -1<=x/\x<(m:Int)):∃lt,lt.length<=1000000/\Tn (λa=>Jd a d) (λr=>r=lt)/\Tn (λa=>yv a d) (λr=>∀x,x∈r↔x∈lt)/\Tn (λa=>yv a d) (λr=>r.length<=1000000)/\∃j,j 0=true/\Tn (λa=>Zj a d) (λr=>r=Zt d j)/\Tn (λa=>Ye a d) (λr=>r=Zt d j):=by
 have k:=z39 h n o c hm λx e=>(g x e).1;have l:=zn2 h n o c hm λx e=>(g x e).1;obtain⟨lt,p,q,f⟩:=(jfh d c hm k).val;have b:=zz5 l c hm;refine⟨lt,U,p,b.mono λr b x=>(b.2 x).trans (f x).symm,b.mono λr b=>?_,_,rfl,juk d c hm k,jgf d c hm l⟩;have t:RN m r:=⟨b.1,λx e=>by
  obtain⟨i,_,u,v⟩:=(b.2 x).1 e;exact⟨v,(g x (wcq u)).2⟩⟩
 have:=t.len;omega
def zD_b:(zD:jd).2.2.1.length<=1000000/\(∀l∈(zD:jd).2.2.1,l.length<=1000000)/\(zD:jd).2.2.2.1.length<=1000000:=V
def CWi(d:jd):Prop:=∀b:Nat,b<256->∃c:Nat,d.1.l[b]?=some (c:Int)/\(c:Int)<d.2.1
structure MX(d:jd):Prop where
 cw:CWi d
 r:Tn (λnn=>yu nn d) (λb=>b=true)
 q:Tn (λnn=>yb nn d) (λb=>b=true)
def mx_of{d:jd}{E:Nat->Nat->Bool}(h:Eqv E)(a:ClsAt E d.1 256)(e:d.2.1=((qu E 256).length:Int))(g:DSz d)(hm:MOk d)(i:∀x∈d.2.2.2.1, -1<=x):MX d:=⟨λb f=>⟨_,a.c b f,by rw[e];exact Int.ofNat_lt.2 (jgc h f)⟩,z39 h a e g hm i,zn2 h a e g hm i⟩
def jm1(g:jb)(hb:GBu g)(hn:(∀x∈g.1,x.1.length<=9223372036854775807)/\(∀x∈g.2.1,x.length<=9223372036854775807)/\∀x∈g.2.2.1,x.2.1.length<=9223372036854775807)(ho:∀t∈g.1,∀x∈t.2.1,zfl x.2.1):∃r:jd×W7×jc×Unit,Tn (λj=>zf j g) (λx=>x=r)/\Tn (λj=>Ql j g) (λx=>x=r) /\
  (r.1.2.2.1.length<=1000000/\(∀l∈r.1.2.2.1,l.length<=1000000)/\r.1.2.2.2.1.length<=1000000)/\(r.2.1.length<=1000000/\∀l∈r.2.1,l.length<=1000000)/\(r.2.2.1.1=0->DSz r.1/\MOk r.1/\Tn (λj=>Yx j r.1.1) (λx=>x=r.1.2.1)/\MX r.1) /\(r.2.2.1.1≠0->r.1=zD):=by
 have h1:=hb.t;have h2:=hb.r;have h3:=hb.p;have h4:=hb.n;have h5:=hb.s;have Q:zag g:=⟨⟨U,U,U⟩,λx hx=>by have:=z0g hx;omega⟩
 have z:zei g:=⟨Q,hn.1,hn.2.1,hn.2.2⟩
 by_cases hz:gFd g=zd
 rotate_left
 ·have P:(gFd g).1≠0:=λh=>hz (z3y h);exact⟨_,jet Q P,z63 z P,zD_b,V,λh=>absurd h P,λ_=>rfl⟩
 obtain⟨b2,A⟩:=jso Q hz;obtain⟨em,re,mk,al,B,c,R⟩:=FmA_of Q hz;have S:=R.k;have b:=S.kn
 -- the reference's sets
 obtain⟨r2,a3,c4⟩:=(z10 g z hz A).val;obtain⟨m2,c1,c5⟩:=(zuv g z hz A true).val;obtain⟨e2,b8,c3⟩:=(zuv g z hz A false).val;obtain rfl:=jb4 c4 ⟨b.hrl,b.rest,b.recl,S.res⟩;obtain rfl:=jc2 c5 R.m;obtain rfl:=jc2 c3 ⟨b.hel,S.emt,S.ems⟩;have hM:Tn (λj=>Y0 j g) (λr=>r=m2):=by
  unfold Y0;exact Waj c1 waa λr T=>Tt.pure T
 have hE:Tn (λj=>Jy j g) (λr=>r=e2):=by
  unfold Jy;exact Waj b8 waa λr T=>Tt.pure T
 have hA:EmX g e2 al:=⟨⟨hE,b.hel,b.fic⟩,S.als⟩
 have hF:=z8j g z hz A hA a3 b.hrl b.hBl S.Bs b.hBe b.foc;have hC:Tn (λj=>Vj j g) (λr=>r.1=cD c):=(z5r z hz A hA hF b.hBl b.hBr).mono λr⟨d,e,hd⟩=>by
  rw[e,hd.one R.c]
 have b7:c.1=0->cD c=zd:=λh=>by
  rcases R.c with⟨rfl,_⟩|⟨q,rfl,_⟩
  ·rfl
  ·cases h
 have hP:=jfr z U hz a3 b.hrl hM R.m.1 hC b7
 -- the tables
 obtain⟨tb,b4,J⟩:=(jlo Q b2 A b).val;have Z:Tn (λj=>Yu j g) (λr=>r=tb):=(je3 z hz A hA hF b.hBl b.hBr).mono λr T=>T.one J;have e3:tb.1.length<=1000000/\∀l∈tb.1,l.length<=1000000:=by
  obtain⟨d,_,k1,k2⟩:=J;by_cases e:d.1=0
  ·obtain⟨ll,rfl,a1⟩:=k2 e;refine⟨by have:=a1.n;grind,λl hl=>?_⟩;obtain⟨i,hi⟩:=wdd hl;have:=a1.w i l hi;omega
  ·rw[k1 e];simp
 -- the machines
 have O:=z8e hz;obtain⟨M,hZ,hO⟩:=netK_R O U;have L:=z5s ho g.1.length (wcs _);have I:=jep hz;obtain⟨u,hB,a,ha,N⟩:=(jky (Zb g.1 g.1.length) U hZ L M g.2.2.2.2.1 I h5).val;have a9:Tn (λj=>zbv j (Zb g.1 g.1.length) g.2.2.2.2.1) (λr=>r=u):=(jkm (Zb g.1 g.1.length) U hZ L M _ I h5).mono λr⟨a',b6,T⟩=>by
  obtain rfl:=ClsAt.one b6 ha
  grind
 have b1:=jwn g.1 U O U;have Y:=jf5 g.1 U O U;have D:=zii (Zb g.1 g.1.length).1;have hW:=zeb (Zg (Zb g.1 g.1.length).1) 256;have hD:DSz u.1:=by
  rw[N];exact jwc ⟨_,zqg D ha⟩ hW I h5
 have f:∃lt C,lt.length<=1000000/\(C.2.2.1.length<=1000000/\(∀l∈C.2.2.1,l.length<=1000000)/\C.2.2.2.1.length<=1000000)/\(u.2.2.1=0->DSz C/\MOk C/\Tn (λj=>Yx j C.1) (λx=>x=C.2.1)/\MX C)/\(u.2.2.1=0->Tn (λj=>Jd j u.1) (λr=>r=lt)/\Tn (λj=>yv j u.1) (λr=>∀x,x∈r↔x∈lt)/\Tn (λj=>yv j u.1) (λr=>r.length<=1000000)/\Tn (λj=>Zj j u.1) (λr=>r=C)/\Tn (λj=>Ye j u.1) (λr=>r=C)):=by
  by_cases h0:u.2.2.1=0
  rotate_left
  ·exact⟨[],zD,V,zD_b,λh=>absurd h h0,λh=>absurd h h0⟩
  have hs:∃q,zo2 (Zb g.1 g.1.length) a (qu (Zg (Zb g.1 g.1.length).1) 256).length g.2.2.2.2.1 202 0 [[]] [] []=some (some q):=by
   rw[N]at h0;cases e:zo2 (Zb g.1 g.1.length) a (qu (Zg (Zb g.1 g.1.length).1) 256).length g.2.2.2.2.1 202 0 [[]] [] []with
   |none=>rw[e]at h0;cases h0
   |some o=>
    cases o with
    |none=>rw[e]at h0;cases h0
    |some q=>simp
  obtain⟨q,hq⟩:=hs;obtain⟨hm,hl⟩:=jq3 hW I U hO M.o hq;have F:u.1=(a,((qu (Zg (Zb g.1 g.1.length).1) 256).length:Int),q.2.1,q.2.2,()):=by rw[N,hq];rfl
  obtain⟨lt,k1,k2,k3,k4,kp,k0,k5,k6⟩:=jus D X X hD X (m:=g.1.length) U X;have H:=jo0 hD X k0;exact⟨lt,_,k1,jt2 hD,λ_=>⟨H.1,H.2,(zns D (a:=u.1.1) X).mono λx hx=>by rw[hx];show _=u.1.2.1;grind,mx_of D (d:=Zt u.1 kp) (by show ClsAt _ u.1.1 256;rw[F];exact ha) (by show u.1.2.1=_;rw[F]) H.1 H.2 λx hx=>by
   obtain⟨i,hi,rfl⟩:=wc6.1 hx;have G:i<u.1.2.2.2.1.length:=by rw[show u.1.2.2.2.1.length=u.1.2.2.1.length from(show MOk u.1 by rw[F];exact hm).lab];exact z0p hi
   have e:Jb u.1 i=u.1.2.2.2.1[i]:=vk G;rw[e];have h9:∀y∈u.1.2.2.2.1, -1<=y:=by
    rw[F];exact λy hy=>(hl y hy).1
   exact h9 _ (wcm G)⟩,λ_=>⟨k2,k3,k4,k5,k6⟩⟩
 obtain⟨lt,C,G,e8,a2,f⟩:=f;have a8:=jr3 Q U hz R b1 a9 (λh=>(f h).1) G (λh=>(f h).2.2.2.1) b4;have b3:=jg7 U hP Y hB (λh=>(f h).2.1) (λh=>(f h).2.2.1) (λh=>(f h).2.2.2.2) Z;refine⟨_,a8,b3,?_,?_,λh=>?_,λh=>?_⟩
 ·unfold jb9;split
  ·omega
  simp
 ·unfold jb9;split
  ·omega
  simp
 ·unfold jb9 at h⊢;split at h
  ·rename_i v;rw[if_pos v];have h3:=zgj v (zqr g.1.length u.2.2.1 lt) V;refine a2 ?_;by_cases e:u.2.2.1=0
   ·omega
   ·unfold zqr at h3;rw[if_neg e]at h3;cases h3
  ·rename_i v;exact absurd h v
 ·unfold jb9 at h⊢;split at h
  ·rename_i v;exact absurd v h
  ·rename_i v;rw[if_neg v]
abbrev bS(d:jd)(lb:Int):Nat->Prop:=λi=>i<d.2.2.1.length/\Jb d i=lb
def z3d{d:jd}(lb:Int)(hd:DSz d)(hm:MOk d):Tn (λnn=>zdw nn d lb) (λr=>r=zao d.2.2.1.length (aE d) (bS d lb)):=by
 have n0:0<d.2.2.1.length:=hm.n0;have hn:=hd.n;have g7:0<=d.2.1:=hm.w.1;have g8:d.2.1<=256:=hm.w.2;have c7:d.2.2.2.1.length=d.2.2.1.length:=hm.lab;unfold zdw;refine Tt.b1 (wac _ (mkN (n:=d.2.2.1.length) U U) ?_);generalize hN:d.2.2.1.length=N at n0 hn c7⊢;refine Tt.loop (λm s=>∃(o:Bool)(a:Wb),m=2*offs a+(if o=true then 1 else 0)/\s=(lb,o,d,a)/\a.length=N/\(∀i,onB a i->Rch (aE d) (bS d lb) i)/\(o=false->a=zao N (aE d) (bS d lb))) _ waa ⟨true,_,rfl,rfl,V,λi hi=>absurd hi zxn,λh=>X⟩ λm s⟨o,a,e9,L,ha,b4,e3⟩ nx f4=>?_;subst L;dsimp only;refine wab (λc=>?_) λc=>Tt.pure (e3 c);subst c;rw[hN];refine Tt.loop (λm s=>∃(i:Nat)(o:Bool)(b:Wb),i<=N/\m=N-i/\s=(lb,o,d.2.2.1,(N:Int),(i:Int),d,b)/\b.length=N/\LeB a b/\(∀i,onB b i->Rch (aE d) (bS d lb) i)/\(o=true->offs b<offs a)/\(o=false->a=b/\∀P,P<i->(Jb d P=lb->onB a P)/\∀j,onB a j->dE d P j->onB a P)) N waa.fst ⟨0,false,a,U,Wab,rfl,ha,LeB.refl a,b4,(λh=>X),λ_=>⟨rfl,λP h=>U⟩⟩ λm s⟨i,o,b,hi,g4,L,hb,c9,F,a2,x⟩ ny f5=>?_;subst L;dsimp only;refine wab (λc1=>?_) λc1=>?_
 ·have c1:=wcj c1;have g3:i<N:=U;have H:i<d.2.2.1.length:=U;have p:i<b.length:=U;have c6:i<d.2.2.2.1.length:=U;have c8:Jb d i=d.2.2.2.1[i]:=vk c6;have b5:=atN H;have d7:((d.2.2.1[i]).length:Int)=d.2.1:=by
   have:=hm.row i U U;rw[vk (l:=d.2.2.1) H]at this;omega
  have I:∀(c:Nat)(hc:c<(d.2.2.1[i]).length),nxt d i c=(d.2.2.1[i])[c]:=λc hc=>zl9 H hc;have T:∀(c:Nat)(hc:c<(d.2.2.1[i]).length), -1<=(d.2.2.1[i])[c]/\(d.2.2.1[i])[c]<d.2.2.1.length:=λc hc=>by
   have : -1<=nxt d i (c:Int)/\nxt d i (c:Int)<d.2.2.1.length:=hm.nx i c U U U U;rw[I c hc]at this;exact this
  generalize d.2.2.1[i]=row at b5 d7 T I
  -- what is so of the state behind a row
  refine Tt.J (λs=>∃(g:Bool)(C:Wb),s=(lb,g,d.2.2.1,(N:Int),(i:Int),d,C)/\C.length=N/\LeB b C/\(∀i,onB C i->Rch (aE d) (bS d lb) i)/\(g=true->offs C<offs a)/\(g=false->a=C/\(Jb d i=lb->onB a i)/\∀j,onB a j->dE d i j->onB a i)/\(g=false->o=false)) (λnz d4=>?_) λs⟨g,b1,L,e4,d0,b6,d2,S,f0⟩=>?_
  ·refine wac _ b5 (wac _ (yj U) (wac _ (atN p) (wab (λc2=>?_) λc2=>?_)))
   ·have d5:onB b i:=by unfold onB;rw[wch p,c2]
    exact d4 _ ⟨o,b,rfl,hb,LeB.refl b,F,a2,λh=>⟨(x h).1,λ_=>(x h).1▸d5,λ_ _ _=>(x h).1▸d5⟩,id⟩
   ·have Y:b[i]?=some false:=by rw[wch p,c2]
    refine wac _ (atN c6) (wac _ (yj U) (wac _ (zr _ p) ?_))
    let Z:Nat->Prop:=λc=>Jb d i=lb\/∃A j:Nat,A<c/\nxt d i A=j/\onB b j
    refine Tt.loop (λm s=>∃(c:Nat)(t:Wb),c<=row.length/\m=row.length-c/\s=(lb,o,(i:Int),d.2.2.1,(N:Int),(i:Int),row,(row.length:Int),(c:Int),d,t)/\((t=b/\¬Z c)\/(t=b.set i true/\Z c))) row.length waa.fst.fst ⟨0,_,U,U,rfl,?_⟩ λm s hI nw f3=>?_
    ·by_cases e:d.2.2.2.1[i]=lb
     ·rw[wdg e];exact .inr ⟨rfl,.inl (c8.trans e)⟩
     ·rw[wc3 e];refine .inl ⟨zm7 p c2,λh=>?_⟩;omega
    obtain⟨c,t,hc,e8,L,hP⟩:=hI;subst L;dsimp only;have e5:t.length=N:=by rcases hP with⟨rfl,_⟩|⟨rfl,_⟩<;>simp[hb]
    have f:i<t.length:=U;refine wab (λc3=>?_) λc3=>?_
    ·have c3:=wcj c3;have G:c<row.length:=U;have hq:=T c G;have a3:=I c G;refine wac _ (atN G) (Tt.J (λs=>∃b3,s=(lb,o,(i:Int),d.2.2.1,(N:Int),(i:Int),row,(row.length:Int),(c:Int),d,b3)/\((b3=b/\¬Z (c+1))\/(b3=b.set i true/\Z (c+1)))) (λnu a4=>?_) λs⟨b3,L,e1⟩=>?_)
     ·refine wac _ (yj f) (wac _ (atN f) (wab (λQ=>?_) λQ=>?_))
      ·refine wac _ (yj f) (wac _ (zr true f) (a4 _ ⟨_,rfl,.inr ?_⟩));rcases hP with⟨rfl,_⟩|⟨rfl,hp⟩
       ·rw[c2]at Q;cases Q
       ·refine⟨V,?_⟩;rcases hp with hp|⟨A,j,h1,u,D⟩
        ·exact .inl hp
        ·exact .inr ⟨A,j,U,u,D⟩
      ·have e6:t=b/\¬Z c:=by
        rcases hP with h|⟨rfl,_⟩
        ·omega
        ·simp at Q
       obtain⟨rfl,y⟩:=e6;refine Tt.b1 (wab (λc5=>?_) λc5=>?_)
       ·have c5:=wcj c5;obtain⟨z,hz⟩:∃z:Nat,row[c]=(z:Int):=⟨(row[c]).toNat,U⟩
        have O:z<t.length:=U;rw[hz];refine wac _ (yj O) (wac _ (atN O) (wac _ (yj f) (wac _ (zr _ f) (a4 _ ⟨_,rfl,?_⟩))));cases e:t[z]with
        |true=>exact .inr ⟨rfl,.inr ⟨c,z,U,by rw[a3,hz],by unfold onB;rw[wch O,e]⟩⟩
        |false=>
         refine .inl ⟨zm7 p c2,λh=>?_⟩;rcases h with h|⟨A,j,h1,u,D⟩
         ·exact y (.inl h)
         ·by_cases e2:A=c
          ·subst e2;rw[a3,hz]at u;have:z=j:=U;subst this;unfold onB at D;rw[wch O,e]at D;cases D
          ·exact y (.inr ⟨A,j,U,u,D⟩)
       ·have c5:=wck c5;refine wac _ (yj f) (wac _ (zr false f) (a4 _ ⟨_,rfl,.inl ⟨zm7 p c2,λh=>?_⟩⟩));rcases h with h|⟨A,j,h1,u,D⟩
        ·exact y (.inl h)
        ·by_cases e2:A=c
         ·subst e2;rw[a3]at u;omega
         ·exact y (.inr ⟨A,j,U,u,D⟩)
     ·subst L;dsimp only;refine Tt.b1 ?_;rw[wI U U];exact f3 (row.length-(c+1)) _ (by rw[e8];exact Nat.sub_lt_sub_left G (we0 c)) ⟨c+1,b3,G,rfl,rfl,e1⟩
    ·have c3:=wck c3;have ec:c=row.length:=Nat.le_antisymm hc (Int.ofNat_le.1 (Int.not_lt.1 c3));subst ec
     -- behind the row
     have v:(t=b/\¬Z row.length)\/(t=b.set i true/\Z row.length):=hP;have R:LeB b t:=by rcases v with⟨rfl,_⟩|⟨rfl,_⟩<;>first|exact LeB.refl _|exact LeB.set p
     have b7:∀k,onB t k->Rch (aE d) (bS d lb) k:=λk hk=>by
      rcases v with⟨rfl,_⟩|⟨rfl,hp⟩
      ·exact F k hk
      ·rcases(Qb p).1 hk with h|h
       ·subst h;rcases hp with h|⟨A,j,h1,u,D⟩
        ·exact .base ⟨H,h⟩
        ·exact .step (F j D) ⟨H,A,U,by show(A:Int)<d.2.1;omega,u⟩
       ·exact F k h
     have b8:∀g,(g=true↔o=true\/onB t i)->∃(B:Bool)(C:Wb),(lb,g,d.2.2.1,(N:Int),(i:Int),d,t)=(lb,B,d.2.2.1,(N:Int),(i:Int),d,C)/\C.length=N/\LeB b C/\(∀i,onB C i->Rch (aE d) (bS d lb) i)/\(B=true->offs C<offs a)/\(B=false->a=C/\(Jb d i=lb->onB a i)/\∀j,onB a j->dE d i j->onB a i)/\(B=false->o=false):=λg h=>by
      have g6:offs t<=offs b:=by
       rcases R.offs with e|e
       ·rw[e];exact wcs _
       ·omega
      refine⟨g,t,rfl,e5,R,b7,λe=>?_,λe=>?_,λe=>?_⟩
      ·rcases h.1 e with e|e
       ·have:=a2 e;omega
       ·rcases v with⟨rfl,_⟩|⟨rfl,_⟩
        ·unfold onB at e;rw[Y]at e;cases e
        ·have h1:=zq2 Y;rcases c9.offs with e2|e2
         ·rw[<- e2]at h1⊢;omega
         ·omega
      ·have f1:o=false:=by cases hh:o with
        |false=>rfl
        |true=>rw[h.2 (.inl hh)]at e;cases e
       have f2:¬onB t i:=λhh=>by rw[h.2 (.inr hh)]at e;cases e
       rcases v with⟨rfl,y⟩|⟨rfl,_⟩
       ·have M:=(x f1).1;refine⟨M,λh=>absurd (.inl h) y,λj hj hE=>?_⟩;obtain⟨_,A,h0,u,D⟩:=hE;obtain⟨q,rfl⟩:=wdy h0;have u:(q:Int)<d.2.1:=u;exact absurd (.inr ⟨q,j,U,D,M▸hj⟩) y
       ·exact absurd ((Qb p).2 (.inl rfl)) f2
      ·cases hh:o with
       |false=>rfl
       |true=>rw[h.2 (.inl hh)]at e;cases e
     refine(Tt.J (λs=>∃g,s=(lb,g,d.2.2.1,(N:Int),(i:Int),d,t)/\(g=true↔o=true\/onB t i)) (λnv d3=>?_) λs⟨g,L,d1⟩=>?_)
     ·refine wab (λQ=>d3 _ ⟨true,rfl,⟨λ_=> .inl Q,λ_=>rfl⟩⟩) λQ=>?_;refine wac _ (yj f) (wac _ (atN f) (d3 _ ⟨_,rfl,?_⟩));rw[Q];unfold onB;rw[wch f];simp
     ·subst L;dsimp only;exact(d4 _ (b8 g d1)).fst
  ·subst L;dsimp only;refine Tt.b1 ?_;rw[wI U U];refine f5 (N-(i+1)) _ U ⟨i+1,g,b1,U,rfl,rfl,e4,c9.trans d0,b6,d2,λe=>⟨(S e).1,λP g2=>?_⟩⟩;by_cases h:P=i
   ·subst h;exact(S e).2
   ·have M:=(x (f0 e)).2 P U;exact M
 ·have c1:=wck c1;refine(f4 (2*offs b+(if o=true then 1 else 0)) _ ?_ ⟨o,b,rfl,rfl,hb,F,λe=>?_⟩).fst
  ·rw[e9];cases o with
   |true=>
    have u:=a2 rfl;show 2*offs b+1<2*offs a+1;exact Nat.succ_lt_succ (Nat.mul_lt_mul_of_pos_left u Wah)
   |false=>
    have u:=(x rfl).1;rw[<- u];exact we0 _
  ·obtain⟨rfl,v⟩:=x e;exact z82 hb b4 (λi hi=>(v i (by have:=hi.1;omega)).1 hi.2) λj i hj hE=>(v i (by have:=hE.1;omega)).2 j hj hE
inductive RchP{α:Type}(E:α->α->Prop)(S:α->Prop):α->Prop
 |base {i:α}:S i->RchP E S i
 |step {i j:α}:RchP E S i->E i j->RchP E S j
def E37c(d:jd)(L:Wb)(lb:Int)(c:Nat)(p q:Nat×Nat):Prop:=
 (c:Int)<d.2.1/\nxt d p.1 c=(q.1:Int)/\(p.2=d.2.2.1.length/\q.2=d.2.2.1.length\/p.2<d.2.2.1.length/\∃z:Nat,nxt d p.2 c=(z:Int)/\onB L z/\(q.2=z\/q.2=d.2.2.1.length/\Jb d z=lb))
def V37(d:jd)(p:Nat×Nat):Prop:=p.1<d.2.2.1.length/\p.2<=d.2.2.1.length
def S37(d:jd)(la:Int)(p:Nat×Nat):Prop:=p.1<d.2.2.1.length/\Jb d p.1=la/\p.2=0
abbrev E37(d:jd)(L:List Bool)(lb:Int):Nat×Nat->Nat×Nat->Prop:=λp q=>∃c,E37c d L lb c p q
abbrev R37(d:jd)(L:List Bool)(la lb:Int):Nat×Nat->Prop:=RchP (E37 d L lb) (S37 d la)
def G37(d:jd)(L:Wb)(la lb:Int)(q:Nat×Nat):Prop:=∃p,R37 d L la lb p/\E37 d L lb p q
def E37c.val{d:jd}{L:Wb}{lb:Int}{c:Nat}{p q:Nat×Nat}(hm:MOk d)(e:V37 d p)(h:E37c d L lb c p q):V37 d q:=by
 obtain⟨a,i,b⟩:=h;have m:=hm.nx p.1 c U (by have:=e.1;omega) U a;have f:nxt d p.1 c=at' (at' d.2.2.1 (p.1:Int)) (c:Int):=rfl;refine⟨U,?_⟩;rcases b with b|⟨j,z,k,_,l⟩
 {omega};.have n:=hm.nx p.2 c U U U a;have g:nxt d p.2 c=at' (at' d.2.2.1 (p.2:Int)) (c:Int):=rfl;omega
def R37.val{d:jd}{L:Wb}{la lb:Int}(hm:MOk d){p:Nat×Nat}(h:R37 d L la lb p):V37 d p:=by induction h with|base h=>{exact⟨h.1,by have:=h.2.2;omega⟩}|step _ h a=>obtain⟨c,h⟩:=h;exact h.val hm a
def Qy(N:Nat)(p:Nat×Nat):Arr 2 Int:=⟨[(p.1:Int),if p.2=N then -1 else(p.2:Int)],rfl⟩
def jt6{N:Nat}{p q:Nat×Nat}:zam (Qy N p) (Qy N q)=decide (p=q):=by obtain⟨a,b⟩:=p;obtain⟨x,y⟩:=q;show(([(a:Int),if b=N then -1 else(b:Int)]:Wa) == [(x:Int),if y=N then -1 else(y:Int)])=_;grind
def zfj(N:Nat)(sp:List (Nat×Nat)):List ((Arr 2 Int)×Bool×Unit):=sp.map λp=>(Qy N p,true,())
def jdr{N:Nat}{q:Nat×Nat}:∀{sp:Wam (Nat×Nat)},zl zam (zfj N sp) (Qy N q)=if q∈sp then some true else none
 |[]=>rfl
 |p::sp=>by
  show(match zam (Qy N q) (Qy N p)with
   |true=>some true
   |false=>zl zam (zfj N sp) (Qy N q))=_
  rw[jt6,jdr];grind
section
variable{ι β:Type}{D:Fi ι}{Q:β → Prop}
def z7u{N:Nat}{sp wp:Wam (Nat×Nat)}{q:Nat×Nat}{k:Arr 2 Int}{F:ι->Wam ((Arr 2 Int)×Bool×Unit)->Wam (Arr 2 Int)->Wal β}(g:k=Qy N q)(j:wp.length<=1000000)(h:∀b,(q∈sp/\b=[]\/q∉sp/\b=[q])->Tt D (λi=>F i (zfj N (sp++b)) ((wp++b).map (Qy N))) Q):
  Tt D (λi=>ja (some (zl zam (zfj N sp) k)) λd=>ifB (!(gD false d)) (ja (some (Yr zam (zfj N sp) k true)) λe=>ja (apO 16 (wp.map (Qy N)) [k]) λf=>F i e f) (F i (zfj N sp) (wp.map (Qy N)))) Q:=by
 subst g;refine Tt.b1 ?_;have a:=jdr (N:=N) (q:=q) (sp:=sp);by_cases c:q∈sp
 ·rw[if_pos c]at a;rw[a];have:=h [] (.inl ⟨c,rfl⟩);rw[wc1,wc1]at this
  assumption
 ·rw[if_neg c]at a;rw[a];refine wah rfl (Tt.b1 ?_);rw[zj3 a];refine wac _ (yp X U) ?_;have:=h [q] (.inr ⟨c,rfl⟩);unfold zfj at this⊢
  grind
end
structure St37(d:jd)(L:List Bool)(la lb:Int)(dp wp:List (Nat×Nat))(bad:Bool):Prop where
 nd:(dp++wp).Nodup
 rch:∀p∈dp++wp,R37 d L la lb p
 st:∀p,S37 d la p->p∈dp++wp
 cl:∀p∈dp,∀q,E37 d L lb p q->q∈dp++wp
 bd:bad=true↔∃p∈dp,∃q,E37 d L lb p q/\0<=Jb d q.1
def js3(N:Nat):List (Nat×Nat):=(range N).flatMap λi=>(range (N+1)).map λk=>(i,k)
def jok{N:Nat}{p:Nat×Nat}:p∈js3 N↔p.1<N/\p.2<=N:=by unfold js3;grind
def jpn{α:Type}{N:Nat}(f:Nat->Nat->α):∀l:Wam Nat,(l.flatMap λi=>(range N).map λk=>f i k).length=l.length*N
 |[]=>V
 |i::l=>by rw[wdj,wc4,jpn f l];grind
def jmv(N:Nat):(js3 N).length=N*(N+1):=by unfold js3;rw[jpn];simp
def jrl{α:Type}[DecidableEq α]:∀{l m:Wam α},l.Nodup->(∀x∈l,x∈m)->l.length<=m.length
 |[],m,_,_=>wdz _
 |x::l,m,h,a=>by rw[wfb]at h;have c:=a x V;have b:=jrl h.2 λy d=>(List.mem_erase_of_ne (show y≠x from λe=>h.1 X)).2 (a y X);grind
def z7x{N:Nat}{l:Wam (Nat×Nat)}(h:l.Nodup)(a:∀p∈l,p.1<N/\p.2<=N):l.length<=N*(N+1):=by rw[<- jmv];exact jrl h λp b=>jok.2 (a p b)
def St37.len{d:jd}{L:Wb}{la lb:Int}{dp wp:Wam (Nat×Nat)}{bad:Bool}(hm:MOk d)(h:St37 d L la lb dp wp bad):(dp++wp).length<=d.2.2.1.length*(d.2.2.1.length+1):=z7x h.nd λp a=>(h.rch p a).val hm
section
variable{d:jd}{L:List Bool}{la lb:Int}{dp:List (Nat × Nat)}{bad:Bool}
def St37.mem(a:St37 d L la lb dp [] bad){p:Nat×Nat}:p∈dp↔R37 d L la lb p:=by have e:∀q,q∈dp++[]↔q∈dp:=λq=>V;constructor;{exact λh=>a.rch p ((e p).2 h)};.intro h;induction h with|base h=>{exact(e _).1 (a.st _ h)}|step _ h b=>exact(e _).1 (a.cl _ b _ h)
def St37.bad37(e:St37 d L la lb dp [] bad):bad=true↔∃q,G37 d L la lb q/\0<=Jb d q.1:=by rw[e.bd];constructor;{rintro⟨p,c,q,a,b⟩;exact⟨q,⟨p,e.mem.1 c,a⟩,b⟩};.rintro⟨q,⟨p,c,a⟩,b⟩;exact⟨p,e.mem.2 c,q,a,b⟩
end
def z7v{α:Type}{l:Wam α}{q:α}(h:l.Nodup)(a:q∉l):(l++[q]).Nodup:=by grind
def r0_ex{d:jd}(G:DSz d)(hm:MOk d)(L:Wb)(b lb:Int)(C:Wd)(D:Int)(F:W7):
  Tn (λz=>Z8 z (b,d.2.2.2.1,C,D,F,d.1,d.2.1,d.2.2.1,lb,false,L,[],[])) (λr=>∃sp,St37 d L b lb [] sp false/\r=(d.2.2.2.1,d.1,d.2.1,d.2.2.1,lb,false,L,zfj d.2.2.1.length sp,sp.map (Qy d.2.2.1.length))):=by
 have S:=hm.n0;have O:=G.n;have l:=hm.lab;generalize Q:d.2.2.1.length=N at *;show Tn (λz=>jm _ z _) _;refine Tt.loop (λm s=>∃(i:Nat)(sp:Wam (Nat×Nat)),i<=N/\m=N-i/\s=(b,(N:Int),(i:Int),d.2.2.2.1,d.1,d.2.1,d.2.2.1,lb,false,L,zfj N sp,sp.map (Qy N))/\sp.Nodup/\∀p,p∈sp↔p.1<i/\Jb d p.1=b/\p.2=0) N waa ⟨0,[],U,Wab,by rw[l];rfl,List.nodup_nil,λp=>V⟩ λm s⟨i,sp,R,M,t,g,u⟩ T y=>?_;subst t;dsimp only;refine wab (λc=>?_) λc=>Tt.pure ⟨sp,⟨g,λp j=> .base ?_,λp j=>?_,λp j=>X,⟨λh=>(by cases h),λ⟨p,j,_⟩=>by cases j⟩⟩,rfl⟩
 ·have c:=wcj c;have I:i<N:=U;have e:i<d.2.2.2.1.length:=U;have A:Jb d i=d.2.2.2.1[i]:=vk e;have B:sp.length<=N*(N+1):=z7x g λp j=>X;have f:sp.length<=1000000:=by
   have:N*(N+1)<=300*301:=Nat.mul_le_mul O U;omega
  refine Tt.J (λs=>∃a,s=(b,(N:Int),(i:Int),d.2.2.2.1,d.1,d.2.1,d.2.2.1,lb,false,L,zfj N a,a.map (Qy N))/\a.Nodup/\∀p,p∈a↔p.1<i+1/\Jb d p.1=b/\p.2=0) (λY o=>?_) λs⟨a,t,v,w⟩=>?_
  ·refine wac _ (yj e) (wac _ (atN e) (wab (λk=>?_) λk=>?_))
   ·have k:=wcj k;refine Tt.J (λs=>∃a,s=(b,(N:Int),(i:Int),d.2.2.2.1,d.1,d.2.1,d.2.2.1,lb,false,L,zfj N a,a.map (Qy N))/\a.Nodup/\∀p,p∈a↔p.1<i+1/\Jb d p.1=b/\p.2=0) (λnv x=>?_) λs t=>?_
    ·refine z7u (q:=(i,0)) (by unfold Qy;grind) f λP H=>x _ ?_
     grind
    ·obtain⟨a,rfl,v,w⟩:=t;exact o _ ⟨a,rfl,v,w⟩
   ·have k:=wck k;refine o _ ⟨sp,rfl,g,λp=>?_⟩
    grind
  ·subst t;dsimp only;refine Tt.b1 ?_;rw[wI U U];exact y (N-(i+1)) _ U ⟨i+1,a,U,rfl,rfl,v,w⟩
 ·have c:=wck c;have:=(u p).1 X;exact⟨U,this.2⟩
 ·have c:=wck c;have v:=j.1;simpa using(u p).2 ⟨U,j.2⟩
def r1_ex{d:jd}(hd:DSz d)(hm:MOk d)(L:Wb)(hL:L.length=d.2.2.1.length)(la lb:Int){sp:Wam (Nat×Nat)}(g6:St37 d L la lb [] sp false):
  Tn (λnn=>zaa nn (d.2.2.2.1,d.1,d.2.1,d.2.2.1,lb,false,L,zfj d.2.2.1.length sp,sp.map (Qy d.2.2.1.length))) (λr=>∃D x,St37 d L la lb D [] x/\r=(d.2.2.2.1,d.1,d.2.1,d.2.2.1,lb,x,L,zfj d.2.2.1.length D,[])):=by
 have n0:0<d.2.2.1.length:=hm.n0;have hn:=hd.n;have k8:0<=d.2.1:=hm.w.1;have k9:d.2.1<=256:=hm.w.2;have f0:d.2.2.2.1.length=d.2.2.1.length:=hm.lab;have hT:d.2.2.1.length*(d.2.2.1.length+1)<=90300:=by
  have:d.2.2.1.length*(d.2.2.1.length+1)<=300*301:=Nat.mul_le_mul hn U;omega
 generalize hN:d.2.2.1.length=N at n0 hn f0 hT hL⊢;have Y:∀{D wp x},St37 d L la lb D wp x->(D++wp).length<=N*(N+1):=λh=>hN▸h.len hm;generalize j5:N*(N+1)=T at hT Y;show Tn (λnn=>jm _ nn _) _;refine Tt.loop (λm s=>∃(D wp:Wam (Nat×Nat))(x:Bool),St37 d L la lb D wp x/\m=2*(T-(D++wp).length)+wp.length/\s=(d.2.2.2.1,d.1,d.2.1,d.2.2.1,lb,x,L,zfj N (D++wp),wp.map (Qy N))) _ waa ⟨[],sp,false,g6,rfl,rfl⟩ λm s⟨D,wp,x,M,d0,H⟩ nx g4=>?_;subst H;dsimp only;have d9:=Y M;refine wab (λc=>?_) λc=>?_
 rotate_left
 ·have c:=wck c;have:wp=[]:=by simpa using c
  subst this;exact Tt.pure ⟨D,x,M,V⟩
 have c:=wcj c
 match wp,M,d0,d9,c with
 |[],_,_,_,c=>simp at c
 |p::o,M,d0,d9,c=>
  have d1:=(M.rch p V).val hm;have k6:p.1<N:=hN▸d1.1;have k7:p.2<=N:=hN▸d1.2;have i0:jq ((p::o).map (Qy N)).length 0=some 0:=yj (k:=0) V;have a0:atL ((p::o).map (Qy N)) 0=some (Qy N p):=rfl;have o1:zrh ((p::o).map (Qy N)) 1=some 1:=by
   unfold zrh;simp;rw[wdg (show(1:Int)<=(o.length:Int)+1 by omega)]
  refine wac _ i0 (wac _ a0 (wac _ o1 ?_));have g1:((p::o).map (Qy N)).drop 1=o.map (Qy N):=rfl;rw[g1];have R:D++p::o=D++[p]++o:=V;generalize hA:D++p::o=A at R;obtain⟨W,hW⟩:∃W:Nat,d.2.1=(W:Int):=⟨d.2.1.toNat,U⟩
  have j6:W<=256:=U;refine Tt.loop (λm s=>∃(c:Nat)(g:Wam (Nat×Nat))(b1:Bool),c<=W/\m=W-c/\s=(d.2.1,(c:Int),d.1,d.2.1,d.2.2.1,lb,b1,d.2.2.2.1,L,zfj N (A++g),Qy N p,(o++g).map (Qy N))/\(A++g).Nodup/\(∀q∈g,E37 d L lb p q)/\(∀C:Nat,C<c->∀q,E37c d L lb C p q->q∈A++g)/\(b1=true↔x=true\/∃C:Nat,C<c/\∃q,E37c d L lb C p q/\0<=Jb d q.1)) W waa.fst ⟨0,[],x,U,U,by rw[wc1,wc1];rfl,by rw[wc1,<- hA];exact M.nd,λq f=>(by cases f),λC h=>U,⟨.inl,λh=>by
    rcases h with h|⟨C,h,_⟩
    ·exact h
    ·omega⟩⟩ λm s⟨c,g,b1,hc,k0,H,Q,b0,e4,e3⟩ ny g5=>?_
  subst H;dsimp only;refine wab (λc1=>?_) λc1=>?_
  rotate_left
  ·-- behind the row
   have c1:=wck c1;obtain rfl:c=W:=U;have d8:St37 d L la lb (D++[p]) (o++g) b1:=by
    have e:D++[p]++(o++g)=A++g:=by rw[R];simp only[wc2]
    refine⟨by rw[e];exact Q,λq f=>?_,λq f=>?_,λq f r hr=>?_,?_⟩
    ·rw[e,wcu]at f;rcases f with f|f
     ·exact M.rch q (by rw[hA];exact f)
     ·exact .step (M.rch p V) (b0 q f)
    ·rw[e,wcu];exact .inl (hA▸M.st q f)
    ·rw[e];rw[wcu]at f;rcases f with f|f
     ·exact wem _ (hA▸M.cl q f r hr)
     ·simp at f;subst f;obtain⟨C,c9⟩:=hr;exact e4 C (by have:=c9.1;omega) r c9
    ·rw[e3,M.bd];constructor
     ·rintro(⟨q,j,u⟩|⟨C,_,q,j,u⟩)
      ·exact⟨q,wem _ j,u⟩
      ·exact⟨p,V,q,⟨C,j⟩,u⟩
     ·rintro⟨q,j,r,⟨C,u⟩,F⟩;rw[wcu]at j;rcases j with j|j
      ·exact .inl ⟨q,j,r,⟨C,u⟩,F⟩
      ·simp at j;subst j;exact .inr ⟨C,by have:=u.1;omega,r,u,F⟩
   have e8:=Y d8;have e1:(D++[p]++(o++g)).length=(D++p::o).length+g.length:=Wag;have e2:(D++[p]++(o++g))=A++g:=by rw[R];simp only[wc2]
   refine(g4 (2*(T-(D++[p]++(o++g)).length)+(o++g).length) _ ?_ ⟨D++[p],o++g,b1,d8,rfl,by rw[e2]⟩).fst;rw[d0,e1];rw[e1]at e8;simp only[wc4,wdq]at e8⊢;omega
  -- a class
  have c1:=wcj c1;have j7:c<W:=U;have a6:∀(i:Nat)(hi:i<d.2.2.1.length),((d.2.2.1[i]).length:Int)=d.2.1:=λi hi=>by
   have:=hm.row i U U;rwa [vk (l:=d.2.2.1) hi]at this
  have b9:∀(i:Nat)(hi:i<d.2.2.1.length)(e5:c<(d.2.2.1[i]).length),nxt d i c=(d.2.2.1[i])[c] /\ -1<=(d.2.2.1[i])[c]/\(d.2.2.1[i])[c]<N:=λi hi e5=>by
   have j:=zl9 hi e5;have : -1<=nxt d i (c:Int)/\nxt d i (c:Int)<d.2.2.1.length:=hm.nx i c U U U U;rw[j]at this;exact⟨j,U,U⟩
  have a3:p.1<d.2.2.1.length:=d1.1;have f2:c<(d.2.2.1[p.1]).length:=by have:=a6 p.1 a3;omega
  obtain⟨b4,g7,g8⟩:=b9 p.1 a3 f2
  -- how a class is left
  have e9:(A++g).length<=1000000/\(o++g).length<=1000000:=by
   have j:=z7x (N:=N) Q λq f=>by
    rw[wcu]at f;have hv:V37 d q:=by
     rcases f with f|f
     ·exact(M.rch q (by rw[hA];exact f)).val hm
     ·exact R37.val hm (.step (M.rch p V) (b0 q f))
    exact⟨by have:=hv.1;omega,by have:=hv.2;omega⟩
   have u:(o++g).length<=(A++g).length:=by rw[R];simp only[wc4,wdq,weo];omega
   omega
  refine Tt.J (λs=>∃(b:Wam (Nat×Nat))(G:Bool),s=(d.2.1,(c:Int),d.1,d.2.1,d.2.2.1,lb,G,d.2.2.2.1,L,zfj N (A++(g++b)),Qy N p,(o++(g++b)).map (Qy N))/\∃S:Wam (Nat×Nat),(∀q,E37c d L lb c p q↔q∈S)/\(A++(g++b)).Nodup/\(∀q∈b,q∈S)/\(∀q∈S,q∈A++(g++b))/\(G=true↔b1=true\/∃q∈S,0<=Jb d q.1)) (λnu a1=>?_) λs⟨b,G,H,S,k1,k2,k3,k4,k5⟩=>?_
  rotate_left
  ·subst H;dsimp only;refine Tt.b1 ?_;rw[wI U U];refine g5 (W-(c+1)) _ U ⟨c+1,g++b,G,U,rfl,rfl,k2,λq f=>?_,λC c9 q f=>?_,?_⟩
   ·rw[wcu]at f;rcases f with f|f
    ·exact b0 q f
    ·exact⟨c,(k1 q).2 (k3 q f)⟩
   ·by_cases e:C=c
    ·subst e;exact k4 q ((k1 q).1 f)
    ·have:=e4 C U q f;rw[<- wc2];exact wem _ this
   ·rw[k5,e3];constructor
    ·rintro((h|⟨C,j,u⟩)|⟨q,j,u⟩)
     ·exact .inl h
     ·exact .inr ⟨C,U,u⟩
     ·exact .inr ⟨c,U,q,(k1 q).2 j,u⟩
    ·rintro(h|⟨C,j,q,u,F⟩)
     ·exact .inl (.inl h)
     ·by_cases e:C=c
      ·subst e;exact .inr ⟨q,(k1 q).1 u,F⟩
      ·exact .inl (.inr ⟨C,U,q,u,F⟩)
  have none:(∀q,¬E37c d L lb c p q)->∃(b:Wam (Nat×Nat))(G:Bool),(d.2.1,(c:Int),d.1,d.2.1,d.2.2.1,lb,b1,d.2.2.2.1,L,zfj N (A++g),Qy N p,(o++g).map (Qy N))=(d.2.1,(c:Int),d.1,d.2.1,d.2.2.1,lb,G,d.2.2.2.1,L,zfj N (A++(g++b)),Qy N p,(o++(g++b)).map (Qy N))/\∃S:Wam (Nat×Nat),(∀q,E37c d L lb c p q↔q∈S)/\(A++(g++b)).Nodup/\(∀q∈b,q∈S)/\(∀q∈S,q∈A++(g++b))/\(G=true↔b1=true\/∃q∈S,0<=Jb d q.1):=λh=>
   ⟨[],b1,by rw[wc1],[],λq=>⟨λf=>absurd f (h q),λf=>by cases f⟩,by rw[wc1];exact Q,λq f=>(by cases f),λq f=>(by cases f),⟨.inl,λh=>by
    rcases h with h|⟨q,f,_⟩
    ·exact h
    ·cases f⟩⟩
  have g2:atL (Qy N p).l 0=some (p.1:Int):=rfl;have e7:atL (Qy N p).l 1=some (if p.2=N then(-1:Int)else(p.2:Int)):=rfl;have j0:jq 2 0=some 0:=rfl;have j1:jq 2 1=some 1:=rfl;refine wac _ j0 (wac _ g2 (wac _ (atN a3) (wac _ (atN f2) (wab (λc2=>?_) λc2=>?_))))
  ·have c2:=wcj c2;exact a1 _ (none λq f=>by have:=f.2.1;omega)
  have c2:=wck c2;obtain⟨z,hz⟩:∃z:Nat,(d.2.2.1[p.1])[c]=(z:Int):=⟨((d.2.2.1[p.1])[c]).toNat,U⟩
  rw[hz];rw[hz]at b4 g7 g8 c2;have l2:z<N:=U;have P:z<d.2.2.2.1.length:=U;have Z:Jb d z=d.2.2.2.1[z]:=vk P;refine wac _ j1 (wac _ e7 (wab (λc3=>?_) λc3=>?_))
  ·-- done
   have a5:p.2=N:=by
    have c3:=wcj c3;split at c3
    ·assumption
    ·omega
   have hS:∀q,E37c d L lb c p q↔q∈[(z,N)]:=λq=>by
    rw[wcr];constructor
    ·rintro⟨_,u,F⟩;rw[hN]at F;have e1:q.1=z:=U;rcases F with⟨_,F⟩|⟨F,_⟩
     ·exact Prod.ext e1 F
     ·omega
    ·rintro rfl;exact⟨U,b4,.inl ⟨by rw[hN];exact a5,by rw[hN]⟩⟩
   refine Tt.J (λs=>∃G,s=(d.1,d.2.1,d.2.2.1,lb,G,d.2.2.2.1,L,zfj N (A++g),(⟨[(z:Int),(-1)],rfl⟩:Arr 2 Int),(o++g).map (Qy N))/\(G=true↔b1=true\/0<=Jb d z)) (λnv B=>?_) λs⟨G,H,a9⟩=>?_
   ·refine wac _ (yj P) (wac _ (atN P) (wab (λI=>?_) λI=>?_))
    ·exact B _ ⟨true,rfl,⟨λ_=> .inr (by rw[Z];exact wcj I),λ_=>rfl⟩⟩
    ·exact B _ ⟨b1,rfl,⟨.inl,λh=>by
      rcases h with h|h
      ·exact h
      ·rw[Z]at h;exact absurd h (wck I)⟩⟩
   ·subst H;dsimp only;refine Tt.J (λs=>∃b,s=(d.1,d.2.1,d.2.2.1,lb,G,d.2.2.2.1,L,zfj N (A++g++b),(o++g++b).map (Qy N))/\((z,N)∈A++g/\b=[]\/(z,N)∉A++g/\b=[(z,N)])) (λnw a2=>?_) λs⟨b,H,j⟩=>?_
    ·exact z7u (N:=N) (sp:=A++g) (wp:=o++g) (q:=(z,N)) (by unfold Qy;simp) e9.2 λb j=>a2 _ ⟨b,rfl,j⟩
    ·subst H;dsimp only;refine a1 _ ⟨b,G,by rw[wc2,wc2],_,hS,?_,?_,?_,?_⟩
     ·rw[<- wc2];rcases j with⟨_,rfl⟩|⟨j,rfl⟩
      ·rwa [wc1]
      ·exact z7v Q j
     ·rcases j with⟨_,rfl⟩|⟨_,rfl⟩
      ·intro q f;cases f
      ·exact λq f=>f
     ·intro q f;rw[wcr]at f;subst f;rw[<- wc2];rcases j with⟨j,rfl⟩|⟨_,rfl⟩
      ·rwa [wc1]
      ·simp
     ·rw[a9];constructor
      ·rintro(h|h)
       ·exact .inl h
       ·exact .inr ⟨_,wcr.2 rfl,h⟩
      ·rintro(h|⟨q,f,h⟩)
       ·exact .inl h
       ·rw[wcr]at f;subst f;exact .inr h
  ·-- a place
   have a5:p.2≠N:=λe=>by
    have c3:=wck c3;rw[if_pos e]at c3;exact c3 rfl
   have a4:p.2<d.2.2.1.length:=U;have f3:c<(d.2.2.1[p.2]).length:=by have:=a6 p.2 a4;omega
   obtain⟨a7,h0,h8⟩:=b9 p.2 a4 f3;refine wac _ j1 (wac _ (by rw[e7,if_neg a5]) (wac _ (atN a4) (wac _ (atN f3) ?_)));generalize j9:(d.2.2.1[p.2])[c]=g9 at a7 h0 h8;refine Tt.J (λs=>∃t,s=((z:Int),g9,d.2.1,(c:Int),t,d.1,d.2.1,d.2.2.1,lb,b1,d.2.2.2.1,L,zfj N (A++g),Qy N p,(o++g).map (Qy N))/\(t=false↔∃y:Nat,g9=(y:Int)/\onB L y)) (λnv B=>?_) λs⟨t,H,ht⟩=>?_
   ·refine Tt.b1 (wab (λI=>?_) λI=>?_)
    ·have I:=wcj I;exact B _ ⟨true,rfl,⟨λh=>(by cases h),λ⟨y,h,_⟩=>U⟩⟩
    ·have I:=wck I;obtain⟨y,hy⟩:∃y:Nat,g9=(y:Int):=⟨g9.toNat,U⟩
     subst hy;have O:y<L.length:=U;refine wac _ (yj O) (wac _ (atN O) (B _ ⟨_,rfl,?_⟩));constructor
     ·intro h;refine⟨y,rfl,?_⟩;unfold onB;rw[wch O];simpa using h
     ·rintro⟨y2,j,u⟩;have:y=y2:=U;subst this;unfold onB at u;rw[wch O]at u;simpa using u
   subst H;dsimp only;refine wab (λI=>?_) λI=>?_
   ·refine a1 _ (none λq f=>?_);obtain⟨_,_,F⟩:=f;rw[hN]at F;rcases F with⟨F,_⟩|⟨_,y,h4,h5,_⟩
    ·exact a5 F
    ·rw[a7]at h4;rw[ht.2 ⟨y,h4,h5⟩]at I;cases I
   obtain⟨y,rfl,O⟩:=ht.1 I;have l1:y<N:=U;have d2:y<d.2.2.2.1.length:=U;have f1:Jb d y=d.2.2.2.1[y]:=vk d2;have e0:∀q,E37c d L lb c p q↔q=(z,y)\/q=(z,N)/\Jb d y=lb:=λq=>by
    constructor
    ·rintro⟨_,u,F⟩;rw[hN]at F;have e1:q.1=z:=U;rcases F with⟨F,_⟩|⟨_,y2,h4,h5,h6⟩
     ·exact absurd F a5
     ·rw[a7]at h4;have:y=y2:=U;subst this;rcases h6 with h6|⟨h6,h7⟩
      ·exact .inl (Prod.ext e1 h6)
      ·exact .inr ⟨Prod.ext e1 h6,h7⟩
    ·rintro(rfl|⟨rfl,h7⟩)
     ·exact⟨U,b4,.inr ⟨U,y,a7,O,.inl rfl⟩⟩
     ·exact⟨U,b4,.inr ⟨U,y,a7,O,.inr ⟨by rw[hN],h7⟩⟩⟩
   refine Tt.J (λs=>∃G,s=(d.1,d.2.1,d.2.2.1,lb,G,d.2.2.2.1,L,zfj N (A++g),(⟨[(z:Int),(y:Int)],rfl⟩:Arr 2 Int),(o++g).map (Qy N))/\(G=true↔b1=true\/0<=Jb d z)) (λnv B=>?_) λs⟨G,H,a9⟩=>?_
   ·refine wac _ (yj P) (wac _ (atN P) (wab (λI=>?_) λI=>?_))
    ·exact B _ ⟨true,rfl,⟨λ_=> .inr (by rw[Z];exact wcj I),λ_=>rfl⟩⟩
    ·exact B _ ⟨b1,rfl,⟨.inl,λh=>by
      rcases h with h|h
      ·exact h
      ·rw[Z]at h;exact absurd h (wck I)⟩⟩
   subst H;dsimp only;refine Tt.J (λs=>∃b,s=(d.1,d.2.1,d.2.2.1,lb,G,d.2.2.2.1,L,zfj N (A++g++b),(o++g++b).map (Qy N))/\((z,y)∈A++g/\b=[]\/(z,y)∉A++g/\b=[(z,y)])) (λnw a2=>?_) λs⟨b,H,j⟩=>?_
   ·exact z7u (N:=N) (sp:=A++g) (wp:=o++g) (q:=(z,y)) (by unfold Qy;simp only[show ¬y=N by omega,if_false]) e9.2 λb j=>a2 _ ⟨b,rfl,j⟩
   subst H;dsimp only;have b8:(A++(g++b)).Nodup:=by
    rw[<- wc2];rcases j with⟨_,rfl⟩|⟨j,rfl⟩
    ·rwa [wc1]
    ·exact z7v Q j
   have b7:(z,y)∈A++(g++b):=by
    rw[<- wc2];rcases j with⟨j,rfl⟩|⟨_,rfl⟩
    ·rwa [wc1]
    ·simp
   have b6:∀q∈b,q=(z,y):=by
    rcases j with⟨_,rfl⟩|⟨_,rfl⟩
    ·intro q f;cases f
    ·intro q f;simpa using f
   rw[wc2,wc2];refine wac _ (yj d2) (wac _ (atN d2) (wab (λc5=>?_) λc5=>?_))
   ·have c5:=f1.trans (wcj c5);refine Tt.J (λs=>∃b3,s=(d.1,d.2.1,d.2.2.1,lb,b3,d.2.2.2.1,L,zfj N (A++(g++b)),(⟨[(z:Int),(-1)],rfl⟩:Arr 2 Int),(o++(g++b)).map (Qy N))/\(b3=true↔b1=true\/0<=Jb d z)) (λnv B=>?_) λs⟨b3,H,g0⟩=>?_
    ·refine wac _ (yj P) (wac _ (atN P) (wab (λc6=>?_) λc6=>?_))
     ·exact B _ ⟨true,rfl,⟨λ_=> .inr (by rw[Z];exact wcj c6),λ_=>rfl⟩⟩
     ·exact B _ ⟨G,rfl,a9⟩
    subst H;dsimp only;have g3:(o++(g++b)).length<=1000000:=by
     have h5:b.length<=1:=by rcases j with⟨_,rfl⟩|⟨_,rfl⟩<;>simp
     have h6:=z7x (N:=N) Q λq f=>by
      rw[wcu]at f;have hv:V37 d q:=by
       rcases f with f|f
       ·exact(M.rch q (by rw[hA];exact f)).val hm
       ·exact R37.val hm (.step (M.rch p V) (b0 q f))
      exact⟨by have:=hv.1;omega,by have:=hv.2;omega⟩
     have h7:(o++g).length<=(A++g).length:=by rw[R];simp only[wc4,wdq,weo];omega
     simp only[wc4]at h6 h7⊢;omega
    refine Tt.J (λs=>∃v,s=(d.1,d.2.1,d.2.2.1,lb,b3,d.2.2.2.1,L,zfj N (A++(g++b)++v),(o++(g++b)++v).map (Qy N))/\((z,N)∈A++(g++b)/\v=[]\/(z,N)∉A++(g++b)/\v=[(z,N)])) (λnw a2=>?_) λs⟨v,H,u⟩=>?_
    ·exact z7u (N:=N) (sp:=A++(g++b)) (wp:=o++(g++b)) (q:=(z,N)) (by unfold Qy;simp) g3 λv u=>a2 _ ⟨v,rfl,u⟩
    subst H;dsimp only;refine a1 _ ⟨b++v,b3,by simp only[wc2],[(z,y),(z,N)],λq=>?_,?_,?_,?_,?_⟩
    ·rw[e0];simp[c5]
    ·have e:A++(g++(b++v))=A++(g++b)++v:=by simp only[wc2]
     rw[e];rcases u with⟨_,rfl⟩|⟨u,rfl⟩
     ·rwa [wc1]
     ·exact z7v b8 u
    ·intro q f;rw[wcu]at f;rcases f with f|f
     ·rw[b6 q f];simp
     ·rcases u with⟨_,rfl⟩|⟨_,rfl⟩
      ·cases f
      ·simp at f;subst f;simp
    ·intro q f;have e:A++(g++(b++v))=A++(g++b)++v:=by simp only[wc2]
     rw[e];simp only[wda,List.not_mem_nil,or_false]at f;rcases f with rfl|rfl
     ·exact wem _ b7
     ·rcases u with⟨u,rfl⟩|⟨_,rfl⟩
      ·rwa [wc1]
      ·simp
    ·rw[g0];constructor
     ·rintro(h|h)
      ·exact .inl h
      ·exact .inr ⟨(z,y),V,h⟩
     ·rintro(h|⟨q,f,h⟩)
      ·exact .inl h
      ·simp only[wda,List.not_mem_nil,or_false]at f;rcases f with rfl|rfl<;>exact .inr h
   ·have c5:¬Jb d y=lb:=λe=>wck c5 (f1.symm.trans e);refine a1 _ ⟨b,G,rfl,[(z,y)],λq=>?_,b8,λq f=>?_,λq f=>?_,?_⟩
    ·rw[e0];simp[c5]
    ·rw[b6 q f];simp
    ·rw[wcr]at f;subst f;exact b7
    ·rw[a9];constructor
     ·rintro(h|h)
      ·exact .inl h
      ·exact .inr ⟨(z,y),V,h⟩
     ·rintro(h|⟨q,f,h⟩)
      ·exact .inl h
      ·rw[wcr]at f;subst f;exact .inr h
section
variable{ι α β:Type}{D:Fi ι}
def wbx{l:Wam α}{x y:ι->Wal β}{Q:β->Prop}(h0:l=[]->Tt D x Q)(b:l≠[]->Tt D y Q):Tt D (λi=>Go.Proofs.YtiafpechgjopfaaGreatDoor.T.nilC l (x i) (y i)) Q:=by cases l with|nil=>{exact h0 rfl}|cons a l=>exact b V
def jir{l:Wam α}(h:l≠[]):zx9 l=some false:=by cases l with|nil=>{grind}|cons a l=>rfl
def jbo{b:Nat}{l:Wam α}(a:l.length<=maxLen)(c:l.length*b<=140737488355328):apO b [] l=some l:=by unfold apO;grind
def set_id{l:Wam α}{i:Nat}{a:α}(h:i<l.length)(e:a=l[i]):l.set i a=l:=by simp_all
def wbk{l:Wam α}{i:Nat}{f:α->α}{k:ι->Wam α->Wal β}{Q:β->Prop}(h:i<l.length)(e:f l[i]=l[i])(c:Tt D (λj=>k j l) Q):Tt D (λj=>ja (jq l.length (i:Int)) λa=>ja (ja (atL l a) λb1=>yy l a (f b1)) λb=>k j b) Q:=by refine wac _ (yj h) (wac l ?_ c);rw[atN h];show yy l (i:Int) (f l[i])=some l;rw[zr _ h,set_id h e]
end
structure GItems(g:jb):Prop where
 t:∀x∈g.1,x.2.1.length<=1000000
 n:g.1.length<=1000000/\g.2.1.length<=1000000/\g.2.2.1.length<=1000000
 p:∀x∈g.2.2.1,x.2.1.length*32<=140737488355328
def jot(g:jb)(f:GItems g):Tn (λB=>Jf B g) (λr=>r=g):=by obtain⟨d,h,ps,k,l,o,q,v,u⟩:=g;have C:d.length<=1000000:=f.n.1;have D:h.length<=1000000:=f.n.2.1;have F:ps.length<=1000000:=f.n.2.2;unfold Jf;dsimp only;refine Tt.J (λs=>s=(h,ps,k,l,o,q,v,([],[],[],0,0,0,0,0,()),d)) (λj a=>?_) λs x=>?_;{refine wbx (λe=>a _ ?_) λe=>wac _ (jir e) (wae rfl (wac _ (jbo (by unfold maxLen;omega) U) (a _ rfl)));grind};subst x;dsimp only;refine Tt.loop (λm s=>∃i,i<=d.length/\m=d.length-i/\s=((d.length:Int),(i:Int),h,ps,k,l,o,q,v,([],[],[],0,0,0,0,0,()),d)) d.length waa ⟨0,U,Wab,rfl⟩ λm s w j a=>?_;obtain⟨i,y,z,rfl⟩:=w;dsimp only;refine wad (λc=>?_) λc=>?_;{have b:i<d.length:=U;have A:=f.t d[i] (wcm b);refine waj b (Tt.at b (wac _ (jbo (by unfold maxLen;omega) U) ?_));refine wbk b rfl (wai ?_);exact a (d.length-(i+1)) _ U ⟨i+1,U,rfl,rfl⟩};clear a j;refine wac _ (jbo (by unfold maxLen;omega) U) ?_;refine Tt.J (λs=>s=(k,l,o,q,v,([],[],[],0,0,0,0,0,()),d,h,ps)) (λj a=>?_) λs x=>?_;{refine wbx (λe=>a _ ?_) λe=>wac _ (jir e) (wae rfl (wac _ (jbo (by unfold maxLen;omega) U) (a _ rfl)));grind};subst x;dsimp only;refine Tt.loop (λm s=>∃i,i<=ps.length/\m=ps.length-i/\s=((ps.length:Int),(i:Int),k,l,o,q,v,([],[],[],0,0,0,0,0,()),d,h,ps)) ps.length waa.fst ⟨0,U,Wab,rfl⟩ λm s w j a=>?_;clear c z y;obtain⟨i,y,z,rfl⟩:=w;dsimp only;refine wad (λc=>?_) λc=>Tt.pure rfl;have b:i<ps.length:=U;have A:=f.p ps[i] (wcm b);refine waj b (Tt.at b (wac _ (jbo (by unfold maxLen;omega) U) ?_));refine wbk b rfl (wai ?_);exact a (ps.length-(i+1)) _ U ⟨i+1,U,rfl,rfl⟩
def jv0{l:W7}(h:l.length<=1000000)(e:∀x∈l,x.length<=1000000):Tn (λf=>Yd f l) (λr=>r=l):=by unfold Yd;refine Tt.loop (λm s=>∃i,i<=l.length/\m=l.length-i/\s=(l,(l.length:Int),(i:Int),l.take i)) l.length waa ⟨0,U,Wab,rfl⟩ λm s d k b=>?_;obtain⟨i,g,j,rfl⟩:=d;dsimp only;refine wad (λc=>?_) λc=>Tt.pure ?_;{have a:i<l.length:=U;refine Tt.at a (wac _ (sm7 (e _ (wcm a))) (wac _ (yp X U) (wai ?_)));rw[<- wcp a];exact b (l.length-(i+1)) _ U ⟨i+1,U,rfl,rfl⟩};grind
def jf7(x:Int):Wa->Wa
 |[]=>[x]
 |y::l=>match decide (x<=y)with
  |true=>x::y::l
  |false=>y::jf7 x l
def jue:Wa->Wa
 |[]=>[]
 |x::l=>jf7 x (jue l)
def ztr(x:Int):∀l,(jf7 x l).Perm (x::l)
 |[]=>List.Perm.refl _
 |y::l=>by unfold jf7;split;{rfl};.exact((ztr x l).cons y).trans (List.Perm.swap x y l)
def jcv(x:Int):∀l,l.Pairwise (·<=·)->(jf7 x l).Pairwise (·<=·)
 |[],_=>by simp[jf7]
 |y::l,h=>by rw[wdk]at h;unfold jf7;split;{rename_i c;have c:=wcj c;rw[wdk,wdk];grind};.rename_i c;have c:=wck c;rw[wdk];refine⟨λz hz=>?_,jcv x l h.2⟩;rcases wda.1 ((ztr x l).mem_iff.1 hz)with rfl|hz;{omega};grind
def zxp:∀l,(jue l).Perm l/\(jue l).Pairwise (·<=·)
 |[]=>⟨List.Perm.refl _,List.Pairwise.nil⟩
 |x::l=>⟨(ztr x _).trans ((zxp l).1.cons x),jcv x _ (zxp l).2⟩
def jhq:∀{l m:Wa},l.Pairwise (·<=·)->m.Pairwise (·<=·)->l.Perm m->l=m
 |[],m,_,_,h=>(List.nil_perm.1 h).symm
 |x::l,[],_,_,h=>by simp_all
 |x::l,y::m,a,b,h=>by rw[wdk]at a b;have c:x<=y:=by{rcases wda.1 (h.mem_iff.2 (by simp:y∈y::m))with e|e;{omega};grind};have d:y<=x:=by{rcases wda.1 (h.mem_iff.1 (by simp:x∈x::l))with e|e;{omega};grind};have e:x=y:=U;subst e;rw[jhq a.2 b.2 (h.cons_inv)]
def jjm:zeg=jue:=funext λl=>jhq (zjf l) (zxp l).2 ((List.mergeSort_perm l _).trans (zxp l).1.symm)
set_option maxRecDepth 100000
def jwq(a:Nat):Qm (a+300)=some true:=by unfold Qm zf Vx zu Jd;simp only[jjm];kernel_rfl
def ze1:Tn (λa=>Qm a) (λb=>b=true):=⟨true,⟨300,λn c=>by
 obtain⟨k,rfl⟩:∃k,n=k+300:=⟨n-300,U⟩
 exact jwq k⟩,rfl⟩
def jdq(g:jb)(e:jr5 g):Tn (λi=>za7 i g) (λb=>b=true->GBu g):=by
 unfold za7;refine Tt.J (λb=>b=true->GBu g) (λk a=>?_) λs f=>Tt.pure f;exact Waj (jl4 g e) waa λb d=>(wab (λc=>wab (λj=>a _ λ_=>d c) λ_=>a _ λh=>X) λ_=>a _ λh=>X)
def setOk_of2{s:We}(h:∀x∈s.l,OkI .u64 x):zfl s:=λk=>by by_cases a:k<s.l.length;{have e:s.l.getD k 0=s.l[k]:=X;rw[e];exact OkI.u64 (h _ (wcm a))};grind
def big47{n b:Nat}(h:n*b<=reachBytes)(e:b=32):n*32<=140737488355328:=by subst e;exact wdt h Wah
def cB(d:jd)(b:UInt8):Int:=at' d.1.l (b.toNat:Int)
def CWi.b{d:jd}(h:CWi d)(b:UInt8):∃c:Nat,atL d.1.l (b.toNat:Int)=some (c:Int)/\cB d b=c/\(c:Int)<d.2.1:=by obtain⟨c,a,e⟩:=h b.toNat (UInt8.toNat_lt b);exact⟨c,Qg U X,at_get a,e⟩
def bst(d:jd):Wc->Nat->Nat->Int×Int->Int×Int
 |[],_,_,q=>q
 |b::w,i,st,q=>if nxt d st (cB d b)<0 then q else bst d w (i+1) (nxt d st (cB d b)).toNat (if 0<=Jb d (nxt d st (cB d b)).toNat then(Jb d (nxt d st (cB d b)).toNat,((i+1:Nat):Int))else q)
def zaz(d:jd)(s:Wc)(a:Nat):Int×Int:=if bst d (s.drop a) a 0 (-1,0)=(-1,0)then(-1,((a+1:Nat):Int))else bst d (s.drop a) a 0 (-1,0)
def jxc{l:Wc}{i:Nat}(h:i<l.length):zgv l (i:Int)=some ((l[i].toNat:Nat):Int):=by unfold zgv;grind
def jv4{d:jd}(hd:DSz d)(hm:MOk d)(hc:CWi d){s:Wc}(hs:s.length<=1000000){a:Nat}(ha:a<=s.length):Tn (λnn=>zfx nn d s (a:Int)) (λr=>r.l=[(zaz d s a).1,(zaz d s a).2]):=by
 have n0:=hm.n0;have hn:=hd.n;have Q:=hm.lab;unfold zfx zaz;generalize O:bst d (s.drop a) a 0 (-1,0)=T;refine Tt.J (λx=>x.1=(a:Int)/\x.2.2.l=[T.1,T.2]) (λnx f=>?_) λx v=>?_
 .refine Tt.loop (λm x=>∃i st o p q,a<=i/\i<=s.length/\m=s.length-i/\st<d.2.2.1.length/\p.l=[q.1,q.2]/\bst d (s.drop i) i st q=T/\x=(s,(a:Int),(i:Int),(st:Int),d,o,p)) (s.length-a) waa ⟨a,0,_,_,(-1,0),wcs _,ha,rfl,n0,rfl,O,rfl⟩ λm x hI ny N=>?_;obtain⟨i,st,o,p,q,I,L,h3,C,Z,e,rfl⟩:=hI;dsimp only;refine wad (λc=>?_) λc=>?_
  .have P:i<s.length:=U;refine Tt.J (λx=>∃(g:Nat)(D:Arr 2 Int)(B:Int×Int),g<d.2.2.1.length/\D.l=[B.1,B.2]/\bst d (s.drop (i+1)) (i+1) g B=T/\x=(s,(a:Int),(i:Int),(g:Int),d,o,D)) (λnz k=>?_) λx v=>?_
   .obtain⟨cc,k1,k2,k3⟩:=hc.b s[i];have t:=hm.row (st:Int) U U;rw[vk C]at t;have j:cc<d.2.2.1[st].length:=U;have w:=hm.nx (st:Int) (cc:Int) U U U k3;have hz:nxt d st (cB d s[i])=d.2.2.1[st][cc]:=by{unfold nxt;rw[k2,vk C,vk j]};rw[vk C,vk j]at w;rw[wcw P]at e;unfold bst at e;rw[hz]at e;refine Tt.at C (wac _ (jxc P) (waj (UInt8.toNat_lt _) (wac _ k1 (Tt.at j ?_))));generalize d.2.2.1[st][cc]=z at e w⊢;refine wad (λG=>?_) λG=>?_;{rw[if_pos G]at e;exact f.fst _ ⟨rfl,X⟩}
    .rw[if_neg G]at e;obtain⟨zn,rfl⟩:∃zn:Nat,z=(zn:Int):=⟨z.toNat,U⟩
     have A:zn<d.2.2.1.length:=U;have y:zn<d.2.2.2.1.length:=U;have M:Jb d zn=d.2.2.2.1[zn]:=vk y;rw[wcy,M]at e;refine Tt.at y (wad (λH=>?_) λH=>?_);{rw[if_pos H]at e;exact k _ ⟨zn,_,_,A,by show[_,w64 _]=[_,_];rw[wI U U];rfl,e,rfl⟩};.rw[if_neg H]at e;exact k _ ⟨zn,p,q,A,Z,e,rfl⟩
   .obtain⟨g,D,B,R,S,Y,rfl⟩:=v;dsimp only;refine wai ?_;exact N (s.length-(i+1)) _ U ⟨i+1,g,o,D,B,U,U,rfl,R,S,Y,rfl⟩
  .rw[we8 U]at e;simp[bst]at e;exact f.fst _ ⟨rfl,X⟩
 .obtain⟨xa,xb,F⟩:=x;obtain⟨I,L⟩:=v;dsimp only at I L⊢;subst I;clear O;refine Tt.J (λx=>x.2.l=[(if T=(-1,0)then(-1,((a+1:Nat):Int))else T).1,(if T=(-1,0)then(-1,((a+1:Nat):Int))else T).2]) (λnx f=>?_) λx v=>Tt.pure v;have he:((F.l == [-1,0])=true)↔T=(-1,0):=by{grind};refine wab (λc=>?_) λc=>?_;{have c:=he.1 c;have u:zp8 F 1 (w64 ((a:Int)+1))=some ⟨F.l.set 1 (w64 ((a:Int)+1)),X⟩:=rfl;refine wac 1 rfl (wac _ u (f _ ?_));show F.l.set 1 _=_;rw[L,if_pos c,wI U U,c];rfl};.have c:¬T=(-1,0):=λh=>X;refine f _ ?_;grind
def jg0{d:jd}:∀w i st q,bst d w i st q=q\/(0<=(bst d w i st q).1/\(i:Int)<(bst d w i st q).2/\(bst d w i st q).2<=(i+w.length:Nat))
 |[],_,_,_ => .inl rfl
 |b::w,i,st,q=>by
  unfold bst;split;{simp}
  .split
   .rename_i h0 f;rcases jg0 w (i+1) (nxt d st (cB d b)).toNat (Jb d (nxt d st (cB d b)).toNat,((i+1:Nat):Int))with h|⟨a,c,e⟩
    {rw[h];grind};grind
   .rcases jg0 w (i+1) (nxt d st (cB d b)).toNat q with h|⟨a,c,e⟩
    {exact .inl h};grind
def jdn{d:jd}{s:Wc}{a:Nat}(f:a<s.length):(a:Int)<(zaz d s a).2/\(zaz d s a).2<=(s.length:Int):=by
 unfold zaz;split;{omega}
 .rename_i h;rcases jg0 (d:=d) (s.drop a) a 0 (-1,0)with e|⟨_,b,c⟩
  {grind};grind
def zm9(d:jd)(s:Wc):Nat->Nat->List zk4
 |0,_=>[]
 |k+1,a=>if a<s.length then((zaz d s a).1,(s.take (zaz d s a).2.toNat).drop a,())::zm9 d s k (zaz d s a).2.toNat else []
def zta{d:jd}{s:Wc}:∀{k a:Nat},s.length-a<=k->zm9 d s (s.length-a) a=zm9 d s k a
 |0,a,h=>X
 |k+1,a,h=>by by_cases b:a<s.length;{have:=(jdn (d:=d) b).1;rw[show s.length-a=(s.length-a-1)+1 by omega];simp[zm9];rw[if_pos b,if_pos b,<- zta U,<- zta (k:=k) U]};.rw[show s.length-a=0 by omega];simp[zm9];grind
def sliN{s:Wc}{a u:Nat}(b:a<=u)(c:u<=s.length):zg9 s (some (a:Int)) (some (u:Int))=some ((s.take u).drop a):=by unfold zg9 bdN;grind
def Cut_ex{d:jd}(w:DSz d)(hm:MOk d)(v:CWi d)(q:Tn (λg=>yu g d) (λb=>b=true)){s:Wc}(B:s.length<=1000):Tn (λg=>zel g d s) (λr=>r=zm9 d s s.length 0):=by
 unfold zel cutP;refine Waj q waa λb t=>wah t (Tt.loop (λm x=>∃(a:Nat)(l:Wam zk4),a<=s.length/\l.length<=a/\m=s.length-a/\l++zm9 d s (s.length-a) a=zm9 d s s.length 0/\x=((a:Int),l)) s.length waa ⟨0,[],U,V,Wab,rfl,rfl⟩ λm x p C f=>?_);obtain⟨a,l,o,z,A,e,rfl⟩:=p;dsimp only;refine wad (λc=>?_) λc=>?_
 .have h:a<s.length:=U;obtain⟨D,F⟩:=jdn (d:=d) h;refine Waj (jv4 w hm v U o) waa.fst λr y=>?_;rw[y];obtain⟨u,i⟩:∃u:Nat,(zaz d s a).2=(u:Int):=⟨(zaz d s a).2.toNat,U⟩
  have j:atL [(zaz d s a).1,(zaz d s a).2] 0=some (zaz d s a).1:=rfl;have n:atL [(zaz d s a).1,(zaz d s a).2] 1=some (u:Int):=by{rw[<- i];rfl};refine wac _ j (wac _ n (wac _ (sliN U U) (wac _ (yp X U) ?_)));refine f (s.length-u) _ U ⟨u,_,U,X,rfl,?_,rfl⟩;rw[<- e,show s.length-a=(s.length-a-1)+1 by omega];simp only[zm9];rw[if_pos h,i,wcy,wc2,List.singleton_append,<- zta (k:=s.length-a-1) U]
 .have:s.length-a=0:=U;rw[this]at e;simp[zm9,wc1]at e;exact Tt.pure e
def znj(d:jd):Nat->Wc->Option Nat
 |i,[]=>some i
 |i,b::w=>if nxt d i (cB d b)<0 then none else znj d (nxt d i (cB d b)).toNat w
def jd1(d:jd):Nat->Wc->Prop
 |_,[]=>True
 |i,b::w=>nxt d i (cB d b)<0\/Jb d (nxt d i (cB d b)).toNat<0/\jd1 d (nxt d i (cB d b)).toNat w
def jpy{d:jd}{q:Int×Int}:∀{w:Wc}{i p:Nat},jd1 d p w->bst d w i p q=q
 |[],_,_,_=>rfl
 |b::w,i,p,h=>by
  unfold bst;rcases h with h|⟨c,a⟩
  {grind};.split;{rfl};.rw[if_neg U];exact jpy a
def jiq{d:jd}{w:Wc}:∀{u:Wc}{i s p:Nat}{q:Int×Int},u≠[]->znj d s u=some p->0<=Jb d p->bst d (u++w) i s q=bst d w (i+u.length) p (Jb d p,((i+u.length:Nat):Int))
 |[],_,_,_,_,h,_,_=>absurd rfl h
 |b::u,i,s,p,q,_,a,c=>by
  unfold znj at a;rw[wdw];conv=>lhs;unfold bst
  split at a;{grind};.rename_i h0;rw[if_neg h0];cases u with|nil=>{cases a;grind}|cons e u=>rw[jiq V a c];grind
section
variable{d:jd}{la lb:Int}
def jgq(hm:MOk d)(a:CWi d):∀{w:Wc}{i j:Nat},i<d.2.2.1.length->znj d i w=some j->j<d.2.2.1.length
 |[],_,_,f,h=>by cases h;omega
 |b::w,i,j,f,h=>by obtain⟨c,_,g,k⟩:=a.b b;have:=hm.nx (i:Int) c U U U k;have e:nxt d i c=at' (at' d.2.2.1 (i:Int)) (c:Int):=rfl;unfold znj at h;rw[g]at h;split at h;{grind};.exact jgq hm a U h
def ji1(hm:MOk d)(g:CWi d):∀{w:Wc}{i j:Nat},i<d.2.2.1.length->znj d i w=some j->Jb d j=lb->Rch (aE d) (bS d lb) i
 |[],_,_,a,h,f=>by cases h;exact .base ⟨a,f⟩
 |b::w,i,j,a,h,f=>by obtain⟨c,_,l,k⟩:=g.b b;have:=hm.nx (i:Int) c U U U k;have e:nxt d i c=at' (at' d.2.2.1 (i:Int)) (c:Int):=rfl;unfold znj at h;rw[l]at h;split at h;{grind};.exact .step (ji1 hm g U h f) ⟨a,c,U,k,U⟩
def jif(hm:MOk d)(g:CWi d)(f:∀q,G37 d (zao d.2.2.1.length (aE d) (bS d lb)) la lb q->Jb d q.1<0):∀{x:Wc}{p:Nat},R37 d (zao d.2.2.1.length (aE d) (bS d lb)) la lb (p,d.2.2.1.length)->jd1 d p x
 |[],_,_=>trivial
 |b::x,p,h=>by
  obtain⟨c,_,j,i⟩:=g.b b;have k:=(h.val hm).1;have:=hm.nx (p:Int) c U U U i;have e:nxt d p c=at' (at' d.2.2.1 (p:Int)) (c:Int):=rfl;unfold jd1;rw[j];by_cases h0:nxt d p c<0;{omega}
  .have a:E37 d (zao d.2.2.1.length (aE d) (bS d lb)) lb (p,d.2.2.1.length) ((nxt d p c).toNat,d.2.2.1.length):=⟨c,i,X,.inl ⟨rfl,rfl⟩⟩
   exact .inr ⟨f _ ⟨_,h,a⟩,jif hm g f (.step h a)⟩
def ji4(hm:MOk d)(l:CWi d)(j:∀q,G37 d (zao d.2.2.1.length (aE d) (bS d lb)) la lb q->Jb d q.1<0){x:Wc}{z:Nat}(hz:Jb d z=lb):∀{v:Wc}{p k:Nat},R37 d (zao d.2.2.1.length (aE d) (bS d lb)) la lb (p,k)->k<d.2.2.1.length->v≠[]->znj d k v=some z->jd1 d p (v++x)
 |[],_,_,_,_,h,_=>absurd rfl h
 |b::v,p,k,h,n,_,f=>by
  obtain⟨c,_,o,m⟩:=l.b b;have u:=(h.val hm).1;have w:=hm.nx (p:Int) c U U U m;have e:nxt d p c=at' (at' d.2.2.1 (p:Int)) (c:Int):=rfl;have y:=hm.nx (k:Int) c U U U m;have s:nxt d k c=at' (at' d.2.2.1 (k:Int)) (c:Int):=rfl;unfold znj at f;rw[o]at f;rw[wdw];unfold jd1;rw[o];by_cases h0:nxt d p c<0;{omega}
  .split at f;{grind};rename_i t;have a:(nxt d k c).toNat<d.2.2.1.length:=U;have i:=zw8.2 ⟨a,ji1 hm l a f hz⟩;cases v with
   |nil=>
    cases f;have g:E37 d (zao d.2.2.1.length (aE d) (bS d lb)) lb (p,k) ((nxt d p c).toNat,d.2.2.1.length):=⟨c,m,X,.inr ⟨n,(nxt d k c).toNat,X,i,.inr ⟨rfl,hz⟩⟩⟩
    exact .inr ⟨j _ ⟨_,h,g⟩,jif hm l j (.step h g)⟩
   |cons r v=>
    have g:E37 d (zao d.2.2.1.length (aE d) (bS d lb)) lb (p,k) ((nxt d p c).toNat,(nxt d k c).toNat):=⟨c,m,X,.inr ⟨n,(nxt d k c).toNat,X,i,.inl rfl⟩⟩
    exact .inr ⟨j _ ⟨_,h,g⟩,ji4 hm l j hz (.step h g) a V f⟩
def jtd(hm:MOk d)(c:CWi d)(m:∀q,G37 d (zao d.2.2.1.length (aE d) (bS d lb)) la lb q->Jb d q.1<0){u v x:Wc}{p z:Nat}(g:u≠[])(h:v≠[])(f:znj d 0 u=some p)(a:Jb d p=la)(h0:0<=la)(hz:znj d 0 v=some z)(b:Jb d z=lb):∃y t,zm9 d (u++v++x) (u++v++x).length 0=(la,u,())::y::t:=by
 have i:=hm.n0;have j:jd1 d p (v++x):=ji4 hm c m b (.base ⟨jgq hm c i f,a,rfl⟩) i h hz;have l:zaz d (u++v++x) 0=(la,(u.length:Int)):=by{have e:bst d ((u++v++x).drop 0) 0 0 (-1,0)=(la,(u.length:Int)):=by{rw[wff,wc2,jiq g f U,jpy j,a];simp};unfold zaz;grind};have o:=wfi.2 g;have r:=wfi.2 h;obtain⟨k,n⟩:∃k,(u++v++x).length=k+2:=⟨(u++v++x).length-2,X⟩
 refine⟨((zaz d (u++v++x) u.length).1,((u++v++x).take (zaz d (u++v++x) u.length).2.toNat).drop u.length,()),zm9 d (u++v++x) k (zaz d (u++v++x) u.length).2.toNat,?_⟩;rw[n];conv=>lhs;unfold zm9
 rw[l,if_pos U];dsimp only;rw[wcy,wff,wc2,wfj rfl,<- wc2];conv=>lhs;unfold zm9
 grind
def jwf{s:Wc}(b:s≠[]):∃y t,zm9 d s s.length 0=y::t:=by
 have:=wfi.2 b;obtain⟨k,a⟩:∃k,s.length=k+1:=⟨s.length-1,U⟩
 rw[a];unfold zm9;simp_all
end
def atO:Option Nat->Int
 |some i=>i
 |none => -1
def lbO(d:jd):Option Nat->Int
 |some i=>Jb d i
 |none => -1
section
variable{d:jd}
def jbc(D:DSz d)(hm:MOk d)(A:MX d){w:Wc}(Q:w.length<=1000):Tn (λM=>Zw M d w) (λr=>r=atO (znj d 0 w)):=by
 have L:=hm.n0;have P:=D.n;unfold Zw;generalize C:znj d 0 w=T;refine Waj A.q waa λb v=>?_;subst v;refine wae rfl (Tt.loop (λm s=>∃i o,i<=w.length/\m=w.length-i/\s=(w,atO o,(i:Int),d)/\(o=none/\T=none\/∃j,o=some j/\j<d.2.2.1.length/\znj d j (w.drop i)=T)) w.length waa ⟨0,some 0,wdz _,rfl,rfl,.inr ⟨0,rfl,L,C⟩⟩ λm s B R k=>?_);obtain⟨i,o,O,F,rfl,y⟩:=B;dsimp only;refine Tt.J (λs=>∃b,s=(w,atO o,(i:Int),b,d)/\(b=true↔i<w.length/\0<=atO o)) (λS l=>?_) λs x=>?_;{refine Tt.b1 (wab (λc=>l _ ⟨_,rfl,?_⟩) λc=>l _ ⟨false,rfl,?_⟩);{grind};grind};obtain⟨b,x,v⟩:=x;subst x;dsimp only;refine wab (λc=>?_) λc=>Tt.pure ?_
 .obtain⟨f,h0⟩:=v.1 c;rcases y with⟨rfl,_⟩|⟨j,rfl,g,a⟩
  {exact absurd h0 Wah};obtain⟨cc,G,H,I⟩:=A.cw.b w[i];have p:=hm.row (j:Int) U U;rw[vk g]at p;have e:cc<d.2.2.1[j].length:=U;have u:=hm.nx (j:Int) (cc:Int) U U U I;have hz:nxt d j (cB d w[i])=d.2.2.1[j][cc]:=by{unfold nxt;rw[H,vk g,vk e]};rw[vk g,vk e]at u;rw[wcw f]at a;unfold znj at a;rw[hz]at a;refine Tt.at g (wac _ (jxc f) (waj (UInt8.toNat_lt _) (wac _ G (Tt.at e (wai ?_)))));generalize d.2.2.1[j][cc]=z at a u⊢;by_cases t:z<0;{rw[if_pos t]at a;exact k (w.length-(i+1)) _ U ⟨i+1,none,U,rfl,by rw[show z=-1 by omega];rfl,.inl ⟨rfl,a.symm⟩⟩};.rw[if_neg t]at a;exact k (w.length-(i+1)) _ U ⟨i+1,some z.toNat,U,rfl,by rw[show atO (some z.toNat)=z from(by show((z.toNat:Nat):Int)=z;omega)];rfl,.inr ⟨_,rfl,U,a⟩⟩
 .rcases y with⟨rfl,h⟩|⟨j,rfl,g,a⟩
  {rw[h]};.have N:¬i<w.length:=λh=>by{rw[v.2 ⟨h,by show(0:Int)<=(j:Int);omega⟩]at c;grind};rw[we8 U]at a;rw[<- a];rfl
def z1q(hm:MOk d)(m:MX d){o:Wal Nat}(k:∀j,o=some j->j<d.2.2.1.length):Tn (λn=>Vo n d (atO o)) (λr=>r=lbO d o):=by have i:=hm.lab;unfold Vo;refine Tt.J (λs=>∃b,s=(atO o,b,d)/\(b=true↔o=none)) (λt a=>?_) λs f=>?_;{refine Waj m.q waa λb c=>?_;subst c;refine Tt.b1 (wae rfl ?_);cases o with|none=>{exact wah rfl (a _ ⟨true,rfl,λ_=>rfl,λ_=>rfl⟩)}|some j=>have:=k j rfl;have e:¬((d.2.2.2.1.length:Int)<=(j:Int)):=U;exact wae (wc3 (by show ¬((j:Int)<0);omega)) (a _ ⟨_,rfl,λh=>absurd (wcj h) e,λh=>X⟩)};.obtain⟨b,f,c⟩:=f;subst f;dsimp only;cases o with|none=>{exact wah (c.2 rfl) (Tt.pure rfl)}|some j=>have l:b=false:=by{grind};have p:=k j rfl;have g:j<d.2.2.2.1.length:=U;have e:=vk g;exact wae l (Tt.at g (Tt.pure e.symm))
end
def jau:Tn (λa=>yb a zD) (λb=>b=false):=wao 300 λn=>K
def z5a{a b:Wc}(h:a.length+b.length<=1000):zt5 a b=some (a++b):=by unfold zt5;grind
def jhd{d:jd}{e:Int}(k:e=0->DSz d/\MOk d/\MX d)(l:e≠0->d=zD){w:Wc}(t:w.length<=1000):∃o,Tn (λi=>Zw i d w) (λr=>r=atO o)/\Tn (λi=>Vo i d (atO o)) (λr=>r=lbO d o)/\(0<=lbO d o->e=0/\znj d 0 w=o):=by by_cases c:e=0;{obtain⟨n,a,g⟩:=k c;exact⟨_,jbc n a g t,z1q a g λj p=>jgq a g.cw a.n0 p,λ_=>⟨c,rfl⟩⟩};.rw[l c];refine⟨none,?_,?_,λh=>absurd h Wah⟩;{unfold Zw;exact Waj jau waa λb m=>wah X (Tt.pure rfl)};.unfold Vo;refine Tt.J (λs=>s.2.1=true) (λu f=>?_) λs q=>wah q (Tt.pure rfl);exact Waj jau waa λb m=>Tt.b1 (wah X (f _ rfl))
def jlk{g:jb}{u v x:Wc}{r:jd×W7×jc×Unit}(hS:Tn (λA=>za7 A g) (λb=>b=true))(hO:Tn (λA=>Jf A g) (λx=>x=g))(hA:Tn (λA=>zf A g) (λx=>x=r))(hR:Tn (λA=>Ql A g) (λx=>x=r))
  (h1:r.1.2.2.1.length<=1000000/\(∀l∈r.1.2.2.1,l.length<=1000000)/\r.1.2.2.2.1.length<=1000000) (h5:r.2.2.1.1=0->DSz r.1/\MOk r.1/\MX r.1) (h6:r.2.2.1.1≠0->r.1=zD):Tn (λA=>Vd A g u v x) (λb=>b=true):=by
 have M:Tn (λA=>zh2 A g) (λx=>x=(g,r.1,r.2.1,r.2.2.1,())):=by
  unfold zh2;exact Waj hR waa λx hx=>Tt.pure X
 unfold Vd;refine Tt.J (λs=>∃b,s=(u,v,x,b,g)/\(b=false->u.length<=20/\v.length<=20/\x.length<=20/\u≠[]/\v≠[])) (λnx Q=>?_) λs d=>?_
 ·refine Waj hS waa λl0 h0=>?_;subst h0;have H:=Q _ ⟨true,rfl,λh=>X⟩;refine Tt.b1 (wae rfl (wab (λ_=>H) λc1=>wab (λ_=>H) λZ=>wab (λ_=>H) λc3=>wab (λ_=>H) λc4=>Q _ ⟨_,rfl,λc5=>?_⟩))
  grind
 obtain⟨b,d,N⟩:=d;subst d;dsimp only;refine wab (λ_=>Waj ze1 waa λk B=>Tt.pure B) λc=>?_;obtain⟨hu,hv,hx,d3,d4⟩:=N c;clear N c b;refine Waj hO waa λT a=>?_;rw[a];clear a T;refine Waj M waa λT a=>?_;rw[a];clear a T;obtain⟨ou,a1,a2,a3⟩:=jhd h5 h6 (w:=u) U;obtain⟨ov,b1,b2,Y⟩:=jhd h5 h6 (w:=v) U;refine Waj a1 waa λj hj=>?_;rw[hj];refine Waj a2 waa λk B=>?_;rw[B];refine Waj b1 waa λl hl=>?_;rw[hl];refine Waj b2 waa λm hm=>?_;rw[hm];clear a1 a2 b1 b2 hj B hl hm j k l m;generalize O:lbO r.1 ou=o at a3;generalize P:lbO r.1 ov=f at Y;refine Tt.J (λs=>∃b,s=(u,v,x,o,f,b,g,(),(),(),⟨replicate 256 0,wci⟩,0,(0,0,0,()),(),(),0,(),(),0,[],[],[])/\(b=false->0<=o/\0<=f)) (λny R=>?_) λs d=>?_
 ·have H:=R (u,v,x,o,f,true,g,(),(),(),⟨replicate 256 0,wci⟩,0,(0,0,0,()),(),(),0,(),(),0,[],[],[]) ⟨true,rfl,λh=>X⟩;refine Tt.b1 (wab (λ_=>H) λc1=>wab (λ_=>H) λZ=>R _ ⟨_,rfl,λ_=>?_⟩)
  grind
 obtain⟨b,d,N⟩:=d;subst d;dsimp only;refine wab (λ_=>Waj ze1 waa λk B=>Tt.pure B) λc=>?_;obtain⟨k1,k2⟩:=N c;clear N c b;obtain⟨he,c9⟩:=a3 k1;obtain⟨_,d0⟩:=Y k2;clear a3 Y;obtain⟨hD,L,hX⟩:=h5 he;refine wac _ (z5a U) (wac _ (z5a X) ?_);refine Waj hA waa λT a=>?_;rw[a];clear a T;refine Waj (Cut_ex hD L hX.cw hX.r X) waa λs7 I=>?_;rw[I];clear I s7;refine Tt.J (λs=>s.1=true->∀q,G37 r.1 (zao r.1.2.2.1.length (aE r.1) (bS r.1 f)) o f q->Jb r.1 q.1<0) (λnz D=>?_) λs d=>?_
 rotate_left
 ·obtain⟨b0,b1,b2,Y,b4,b5,b6,b7,b8,b9,c0,c1,Z⟩:=s;dsimp only at d⊢;refine wab (λc=>?_) λc=>?_
  ·obtain⟨y,t,e⟩:=jwf (s:=u++v++x) (by simp_all);rw[e];refine Tt.J (λb=>b=true) (λnw n=>?_) λs d=>Tt.pure d;exact Tt.b1 (wah (wdg V) (Waj ze1 waa λk B=>n _ B))
  ·have c6:b0=true:=by
    grind
   cases ou with
   |none=>rw[<- O]at k1;trivial
   |some p=>
   cases ov with
   |none=>rw[<- P]at k2;trivial
   |some z=>
   obtain⟨y,t,e⟩:=jtd L hX.cw (d c6) d3 d4 c9 O k1 d0 P;rw[e];refine Tt.J (λb=>b=true) (λnw n=>?_) λs d=>Tt.pure d;refine Tt.b1 (wah (wdg X) (wac (o,u,()) rfl (wah ?_ (Waj ze1 waa λk B=>n _ B))));have:∀y:ByteArray,(y == y)=true:=λy=>by cases y;exact beq_self_eq_true (α:=Array UInt8) _
   simp[zyx,this]
 refine wab (λc=>D _ λh=>X) λc=>?_;clear c;refine Waj hO waa λs7 I=>?_;rw[I];clear I s7;refine Tt.loop (λm s=>∃i,i<=2/\m=2-i/\s=((g.1.length:Int),[o,f],(2:Int),(i:Int),g,(),(),(),(0,0,()),(r.1,r.2.1,r.2.2.1,()),(),(),w64 (0+1),(),(),w64 (w64 (0+1)+1))) 2 waa ⟨0,U,Wab,rfl⟩ λm s hI nw n=>?_;obtain⟨i,hi,f8,rfl⟩:=hI;dsimp only;refine wad (λcl=>?_) λcl=>?_
 ·have c7:i<[o,f].length:=X;refine Tt.at c7 ?_;generalize [o,f][i]'c7=x;refine Tt.J (λs=>∃t,s=((g.1.length:Int),[o,f],(2:Int),(i:Int),t,g,(),(),(),(0,0,()),(r.1,r.2.1,r.2.2.1,()),(),(),w64 (0+1),(),(),w64 (w64 (0+1)+1))) (λg1 C=>?_) λs hI=>?_
  ·exact Tt.b1 (wab (λZ=>C _ ⟨_,rfl⟩) λZ=>C _ ⟨_,rfl⟩)
  obtain⟨t,rfl⟩:=hI;dsimp only;refine wab (λc3=>(D _ λh=>X).fst) λc3=>(wai ?_)
  exact n (2-(i+1)) _ U ⟨i+1,U,rfl,rfl⟩
 ·refine Waj (jv0 h1.1 h1.2.1) waa.fst λg2 S=>?_;rw[S];refine wac _ (sm7 h1.2.2) (Waj (z3d f hD L) waa.fst λld c8=>?_);rw[c8];refine Waj (r0_ex hD L _ o f _ _ _) waa.fst λs0 F=>?_;obtain⟨sp,d1,F⟩:=F;subst F;dsimp only;refine Waj (r1_ex hD L _ (ze8 _ _ _) o f d1) waa.fst λs1 G=>?_;obtain⟨dp,f1,d2,G⟩:=G;subst G;dsimp only;refine(D _ λh q hq=>?_).fst;have h:=h;by_cases h2:0<=Jb r.1 q.1
  ·rw[d2.bad37.2 ⟨q,hq,h2⟩]at h
   grind
  omega
def TouchCuts_tot(g:jb)(u v x:Wc)(l:jr5 g)(m:(∀x∈g.1,x.1.length<=9223372036854775807)/\(∀x∈g.2.1,x.length<=9223372036854775807)/\∀x∈g.2.2.1,x.2.1.length<=9223372036854775807)(o:∀t∈g.1,∀x∈t.2.1,zfl x.2.1)(q:∀x∈g.2.2.1,x.2.1.length*32<=140737488355328):Tn (λA=>Vd A g u v x) (λb=>b=true):=by obtain⟨b,e,a⟩:=(jdq g l).val;cases b with|false=>{unfold Vd;refine Tt.J (λs=>s.2.2.2.1=true) (λH d=>?_) λs y=>?_;{refine Waj e waa λb a=>?_;subst a;exact Tt.b1 (wah rfl (d _ rfl))};.obtain⟨I,L,M,N,O⟩:=s;exact wah y (Waj ze1 waa λr w=>Tt.pure w)}|true=>have a:=a rfl;obtain⟨r,j,k,f,B,c,i⟩:=jm1 g a m o;have C:=a.t;have D:=a.r;have F:=a.p;have G:=a.n;exact jlk e (jot g ⟨λx z=>by have:=z0g z;omega,⟨U,U,U⟩,q⟩) j k f (λh=>⟨(c h).1,(c h).2.1,(c h).2.2.2⟩) i
end
end Go.Proofs.YtiafpechgjopfaaGreatDoor.T
