
import Derived.Test.YtigdmmgklieofaaGreatQ1AcceptTells

namespace Go.Proofs.YtigdmmgklieofaaGreat.T
noncomputable section
set_option maxRecDepth 100000
set_option maxHeartbeats 8000000
set_option linter.unusedVariables false
set_option linter.unusedSimpArgs false
open Go Go.RowKit L
theorem zc8:∀t:Ty,t.eqB t=true
 |.int k=>by cases k<;>rfl
 |.bool=>rfl
 |.str=>rfl
 |.sl t=>by simp only[Ty.eqB];exact zc8 t
 |.ref t=>by simp only[Ty.eqB];exact zc8 t
 |.arr n t=>by simp only[Ty.eqB,zc8 t,wev,Bool.and_self]
 |.nil=>rfl
 |.cons a r=>by simp only[Ty.eqB,zc8 a,zc8 r,Bool.and_self]
 |.st r=>by simp only[Ty.eqB];exact zc8 r
 |.tup r=>by simp only[Ty.eqB];exact zc8 r
theorem z5r(ds:List Dyn):∀(a:List HS)(j:Nat),(zis ds a j).length=a.length
 |[],j=>by simp only[zis,wfb]
 |h::a,j=>by simp only[zis,wdy,z5r ds a]
theorem waj{Z b:ZM}{H a:PHeap}{V V':Nm->Value}{w w':World}{cs:List PV}{vs:List Value}(h:RpL Z H V w cs vs)(hm:∀c∈cs,∀v,Rp Z H V w c v->Rp b a V' w' c v):RpL b a V' w' cs vs:=⟨h.1,λi p v d e=>hm p (wck d) v (h.2 i p v d e)⟩
def MV.eqB:MV->MV->Bool
 |.id i v,.id j u=>Nat.beq i j && Nat.beq v u
 |.nil,.nil=>true
 |_,_=>false
theorem wb2{a b:MV}(h:a.eqB b=true):a=b:=by
 cases a<;>cases b<;>simp only[MV.eqB]at h<;>try (cases h;done)
 ·simp only[wcl]at h;rw[wcj h.1,wcj h.2]
 ·rfl
def zbw:List (Nat×MV)->Nat->Option MV
 |[],_=>none
 |m::r,X=>match Nat.beq m.1 X with
  |true=>some m.2
  |false=>zbw r X
theorem zfv{a c:List (Nat×MV)}{X:Nat}{m:MV}(h:zbw a X=some m):zbw (a++c) X=some m:=by
 induction a with
 |nil=>simp[zbw]at h
 |cons x a d=>
  simp only[zbw,we4]at h⊢;cases b:Nat.beq x.1 X<;>rw[b]at h<;>simp only at h⊢
  ·exact d h
  ·exact h
theorem qc{a b:Nat}(h:Nat.beq a b=true):a=b:=wcj h
def zhv(t:Ty):List TS->Option (List t.D)
 |[]=>some []
 |x::b=>match toT t x with
  |none=>none
  |some a=>match zhv t b with
   |none=>none
   |some l=>some (a::l)
@[reducible] def mty (kt t:Ty):Ty :=.sl (.st (.cons kt (.cons (.sl t) .nil)))
def z0o:HB->BD->Option PR
 |.row b t,.row a c l=>match Nat.beq b a with
  |true=>match Dyn.as ⟨.sl c,l⟩ (.sl t)with
   |some x=>some ([⟨.sl t,x⟩],[])
   |none=>none
  |false=>none
 |.row b t,.rowx a k e=>match Nat.beq b a && Nat.beq k (wid t)with
  |true=>match zhv t e with
   |some x=>some ([⟨.sl t,x⟩],[])
   |none=>none
  |false=>none
 |.rowx b k h,.rowx a i e=>match Nat.beq b a && Nat.beq k i && Nat.beq h.length e.length with
  |true=>za5 h e
  |false=>none
 |.box b h,.box a e=>match Nat.beq b a with
  |true=>za5 h e
  |false=>none
 |.obj k,.obj i x=>match k.eqB i with
  |true=>match Dyn.as ⟨i.ty,x⟩ k.ty with
   |some y=>some ([⟨k.ty,y⟩],[])
   |none=>none
  |false=>none
 |.que b t,.que a c l=>match Nat.beq b a with
  |true=>match Dyn.as ⟨.sl c,l⟩ (.sl t)with
   |some x=>some ([⟨.sl t,x⟩],[])
   |none=>none
  |false=>none
 |.que b t,.row a c l=>match Nat.beq b a with
  |true=>match Dyn.as ⟨.sl c,l⟩ (.sl t)with
   |some x=>some ([⟨.sl t,x⟩],[])
   |none=>none
  |false=>none
 |.rows b j t,.rows a d c l _ none=>match Nat.beq b a && Nat.beq j d with
  |true=>match Dyn.as ⟨.sl (.sl c),l⟩ (.sl (.sl t))with
   |some x=>some ([⟨.sl (.sl t),x⟩],[])
   |none=>none
  |false=>none
 |.mrows o j t,.mrows m d c l _ none=>match Nat.beq j d with
  |true=>match Dyn.as ⟨mty m c,l⟩ (mty o t)with
   |some x=>some ([⟨mty o t,x⟩],[])
   |none=>none
  |false=>none
 |.iter X,.iter n g f _=>some ([⟨.sl .bool,f⟩],[(X,.id n g)])
 |_,_=>none
def jm0:HB->Nat
 |.row _ _=>1
 |.rowx _ _ a=>zc0 a
 |.box _ a=>zc0 a
 |.obj _=>1
 |_=>1
def getD(ds:List Dyn)(t:Ty)(j:Nat)(x:t.D):t.D:=match (nth ds j).as t with
 |some y=>y
 |none=>x
def unB(ds:List Dyn):HB->Nat->BD
 |.row a t,j => .row a t (getD ds (.sl t) j [])
 |.rowx a k b,j => .rowx a k (zis ds b j)
 |.box a b,j => .box a (zis ds b j)
 |.obj k,j => .obj k (getD ds k.ty j k.dflt)
 |.que a t,j => .que a t (getD ds (.sl t) j [])
 |.rows a c t,j => .rows a c t (getD ds (.sl (.sl t)) j []) 0 none
 |.mrows d c t,j => .mrows d c t (getD ds (mty d t) j []) 0 none
 |.iter X,j => .iter X 1 (getD ds (.sl .bool) j []) none
def jly:HB->Option Dyn
 |.row _ t=>some ⟨.sl t,[]⟩
 |.que _ t=>some ⟨.sl t,[]⟩
 |.rows _ _ t=>some ⟨.sl (.sl t),[]⟩
 |_=>none
def zwo(E:EF):List (Nat×HS)->Option PR
 |[]=>some jo3
 |h::a=>jfy (Qr h.2 (E h.1)) (zwo E a)
def zrl:List (Nat×HS)->Nat
 |[]=>0
 |h::a=>zlw h.2+zrl a
def je4(ds:List Dyn):List (Nat×HS)->Nat->Nat->TS
 |[],_,_ => .dead
 |h::a,j,i=>match Nat.beq i h.1 with
  |true=>unT ds h.2 j
  |false=>je4 ds a (j+zlw h.2) i
def zq3(G:EG):List (Nat×HB)->List (Nat×MV)->Option PR
 |[],_=>some jo3
 |e::r,mp=>match zbw mp e.1 with
  |some (.id i a)=>match Nat.beq (G i).ver a with
   |true=>match (G i).b with
    |some c=>match z0o e.2 c with
     |some x=>match zq3 G r (mp++x.2)with
      |some y=>some (wai x y)
      |none=>none
     |none=>none
    |none=>none
   |false=>none
  |some .nil=>match jly e.2 with
   |some d=>match zq3 G r mp with
    |some y=>some (d::y.1,y.2)
    |none=>none
   |none=>none
  |none=>none
def ztu(ds:List Dyn):List (Nat×HB)->Nat->Nat->Option BD
 |[],_,_=>none
 |e::r,j,X=>match Nat.beq e.1 X with
  |true=>some (unB ds e.2 j)
  |false=>ztu ds r (j+jm0 e.2) X
def unE(h:LH)(ds:List Dyn):EF:=je4 ds h.slots 0
def unG(h:LH)(ds:List Dyn):EG:=λX=>match ztu ds h.heap (zrl h.slots) X with
 |some a=>⟨1,some a⟩
 |none=>⟨0,none⟩
def inH(L:List (Nat×HB))(X:Nat):Bool:=L.any λe=>Nat.beq e.1 X
def jmx(L:List (Nat×HB))(full:List (Nat×MV)):List (Nat×MV)->Bool
 |[]=>true
 |m::r=>(match zbw full m.1 with
  |some x=>x.eqB m.2
  |none=>false) && inH L m.1 && jmx L full r
def z1g(mp:List (Nat×MV)):List (Nat×HB)->List Nat->Bool
 |[],_=>true
 |e::r,a=>match zbw mp e.1 with
  |some (.id i _)=>!(a.any (Nat.beq i)) && z1g mp r (i::a)
  |_=>z1g mp r a
def mp0:Nat->List (Nat×MV)
 |0=>[]
 |b+1=>(b,.id b 1)::mp0 b
def jg2(b:Nat)(h:LH)(E:EF)(G:EG):Option PR:=match zwo E h.slots with
 |none=>none
 |some x=>match zq3 G h.heap (mp0 b++x.2)with
  |none=>none
  |some y=>match mp0 b++x.2++y.2 with
   |full=>match jmx h.heap full full && z1g full h.heap []with
    |true=>some (x.1++y.1,full)
    |false=>none
theorem z19{L:List (Nat×HB)}{full:List (Nat×MV)}:∀{l:List (Nat×MV)},jmx L full l=true->∀m∈l,zbw full m.1=some m.2/\inH L m.1=true
 |[],_,m,a=>by cases a
 |e::r,h,m,a=>by
  simp only[jmx,wcl]at h;rcases wc1.1 a with rfl|a
  ·cases b:zbw full m.1 with
   |none=>rw[b]at h;simp at h
   |some x=>rw[b]at h;exact⟨by rw[wb2 h.1.1],h.1.2⟩
  ·exact z19 h.2 m a
theorem jnk{b i:Nat}(h:i<b):(i,MV.id i 1)∈mp0 b:=by
 induction b with
 |zero=>omega
 |succ b a=>
  simp only[mp0,wc1];by_cases e:i=b
  ·subst e;exact .inl rfl
  ·exact .inr (a (by omega))
theorem zmc{mp:List (Nat×MV)}:∀{L:List (Nat×HB)}{k:List Nat},z1g mp L k=true ->
  (∀e∈L,∀i v,zbw mp e.1=some (.id i v)->i∉k)/\∀e∈L,∀f∈L,∀i v u,zbw mp e.1=some (.id i v)->zbw mp f.1=some (.id i u)->e.1=f.1
 |[],k,h=>⟨λe c=>(by cases c),λe c=>(by cases c)⟩
 |a::L,k,h=>by
  simp only[z1g]at h;have x:∀{i:Nat}{l:List Nat},(!(l.any (Nat.beq i)))=true->i∉l:=λ{i l}h t=>by
   simp only[weg,List.any_eq_false]at h;exact h i t (wev i)
  have n:∀{g:List Nat},z1g mp L g=true->(∀i v,zbw mp a.1≠some (.id i v))->(∀e∈a::L,∀i v,zbw mp e.1=some (.id i v)->i∉g)/\∀e∈a::L,∀f∈a::L,∀i v u,zbw mp e.1=some (.id i v)->zbw mp f.1=some (.id i u)->e.1=f.1:=λ{g}h w=>by
   obtain⟨r,s⟩:=zmc (L:=L) h;refine⟨λe c i v j=>?_,λe c f q i v u j o=>?_⟩
   ·rcases wc1.1 c with rfl|c
    ·exact absurd j (w i v)
    ·exact r e c i v j
   ·rcases wc1.1 c with rfl|c
    ·exact absurd j (w i v)
    ·rcases wc1.1 q with rfl|q
     ·exact absurd o (w i u)
     ·exact s e c f q i v u j o
  cases p:zbw mp a.1 with
  |none=>rw[p]at h;exact n h (λi v e=>by rw[p]at e;cases e)
  |some m=>
   rw[p]at h;cases m with
   |nil=>exact n h (λi v e=>by rw[p]at e;cases e)
   |id z A=>
    simp only[wcl]at h;obtain⟨y,h⟩:=h;obtain⟨r,s⟩:=zmc (L:=L) h;refine⟨λe c i v j=>?_,λe c f q i v u j o=>?_⟩
    ·rcases wc1.1 c with b|b
     ·rw[b,p]at j;cases j;exact x y
     ·exact λt=>r e b i v j (by simp[t])
    ·rcases wc1.1 c with b|b
     ·rcases wc1.1 q with d|d
      ·rw[b,d]
      ·rw[b,p]at j;cases j;exact absurd (wfs ..) (r f d _ u o)
     ·rcases wc1.1 q with d|d
      ·rw[d,p]at o;cases o;exact absurd (wfs ..) (r e b _ v j)
      ·exact s e b f d i v u j o
mutual
theorem zqx:∀(h:HS)(s:TS)(r:PR),Qr h s=some r->r.1.length=zlw h
 |.v t,s,r,c=>by
  simp only[Qr]at c;split at c<;>cases c;rfl
 |.rd t,s,r,c=>by
  simp only[Qr]at c;split at c<;>try (cases c;done)
  split at c<;>cases c;rfl
 |.own X,s,r,c=>by
  simp only[Qr]at c;split at c<;>try (cases c;done)
  ·cases c;rfl
  ·split at c<;>cases c;rfl
 |.pt X i,s,r,c=>by
  simp only[Qr]at c;split at c<;>try (cases c;done)
  split at c<;>cases c;rfl
 |.dead,s,r,c=>by simp only[Qr]at c;cases c;rfl
 |.ci k z,s,r,c=>by
  simp only[Qr]at c;split at c<;>try (cases c;done)
  split at c<;>cases c;rfl
 |.cb b,s,r,c=>by
  simp only[Qr]at c;split at c<;>try (cases c;done)
  split at c<;>cases c;rfl
 |.fn f a b,s,r,c=>by
  simp only[Qr]at c;split at c<;>try (cases c;done)
  split at c<;>try (cases c;done)
  obtain⟨x,y,e,g,rfl⟩:=zbu c;simp[wai,zlw,zho a _ x e,zho b _ y g]
 |.agg d,s,r,c=>by
  simp only[Qr]at c;split at c<;>try (cases c;done)
  simp only[zlw];exact zl2 d _ r c
 |.tup d,s,r,c=>by
  simp only[Qr]at c;split at c<;>try (cases c;done)
  simp only[zlw];exact zho d _ r c
theorem zho:∀(b:List HS)(xs:List TS)(r:PR),zal b xs=some r->r.1.length=zc0 b
 |[],xs,r,a=>by
  cases xs with
  |nil=>simp only[zal]at a;cases a;rfl
  |cons _ _=>simp[zal]at a
 |h::b,xs,r,a=>by
  cases xs with
  |nil=>simp[zal]at a
  |cons x xs=>
   simp only[zal]at a;obtain⟨q,y,c,d,rfl⟩:=zbu a;simp[wai,zc0,zqx h x q c,zho b xs y d]
theorem zl2:∀(b:List HS)(xs:List TS)(r:PR),za5 b xs=some r->r.1.length=zc0 b
 |[],xs,r,a=>by
  cases xs with
  |nil=>simp only[za5]at a;cases a;rfl
  |cons _ _=>simp[za5]at a
 |h::b,xs,r,a=>by
  simp only[za5]at a;split at a<;>try (cases a;done)
  split at a<;>try (cases a;done)
  obtain⟨q,y,c,d,rfl⟩:=zbu a;simp[wai,zc0,zqx h _ q c,zl2 b _ y d]
end
theorem jet{a:HB}{bd:BD}{r:PR}(h:z0o a bd=some r):r.1.length=jm0 a:=by
 unfold z0o at h;split at h<;>first
  |(cases h;done)
  |(split at h<;>first|(cases h;done)|(split at h<;>cases h;rfl)|exact zl2 _ _ _ h)
  |(cases h;rfl)
def jcc(G:EG)(full:List (Nat×MV))(ds:List Dyn)(X:Nat)(e:HB)(g:BD):Prop:=
 (∃i c f x a post,zbw full X=some (.id i c)/\(G i).ver=c/\(G i).b=some f/\z0o e f=some x/\ds=a++x.1++post/\(∀m∈x.2,m∈full)/\g=unB ds e a.length) \/
 (zbw full X=some .nil/\∃d a post,jly e=some d/\ds=a++d::post/\g=unB ds e a.length)
theorem z1f{G:EG}{full:List (Nat×MV)}{ds:List Dyn}:∀(L:List (Nat×HB))(mp:List (Nat×MV))(r:PR)(rest:List (Nat×MV))(pre post:List Dyn),zq3 G L mp=some r->full=mp++r.2++rest->ds=pre++r.1++post ->
  (∀X b,ztu ds L pre.length X=some b->∃a,(X,a)∈L/\jcc G full ds X a b)/\∀X,inH L X=true->∃b,ztu ds L pre.length X=some b
 |[],mp,r,rest,pre,post,h,l,n=>⟨λX b g=>by simp[ztu]at g,λX c=>by simp[inH]at c⟩
 |e::L,mp,r,rest,pre,post,h,l,n=>by
  obtain⟨Y,a⟩:=e;simp only[zq3]at h;have step:∀{x:PR}{y:PR}{j:List (Nat×MV)}{rest':List (Nat×MV)},x.1.length=jm0 a->zq3 G L j=some y->full=j++y.2++rest'->ds=pre++x.1++(y.1++post)->jcc G full ds Y a (unB ds a pre.length) ->
    (∀X b,ztu ds ((Y,a)::L) pre.length X=some b->∃f,(X,f)∈(Y,a)::L/\jcc G full ds X f b)/\∀X,inH ((Y,a)::L) X=true->∃b,ztu ds ((Y,a)::L) pre.length X=some b:=by
   intro x y j rest' u p s q o;have C:(pre++x.1).length=pre.length+jm0 a:=by simp[u]
   obtain⟨z,A⟩:=z1f (ds:=ds) L j y rest' (pre++x.1) post p s (by rw[q];simp);rw[C]at z A;refine⟨λX b g=>?_,λX c=>?_⟩
   ·simp only[ztu]at g;split at g
    ·rename_i k;cases g;have:=qc k;subst this;exact⟨a,wfs ..,o⟩
    ·obtain⟨f,H,I⟩:=z X b g;exact⟨f,we8 _ H,I⟩
   ·simp only[ztu];simp only[inH,List.any_cons,Bool.or_eq_true]at c;split
    ·exact⟨_,rfl⟩
    ·rename_i k;rcases c with c|c
     ·rw[k]at c;cases c
     ·exact A X c
  split at h<;>try (cases h;done)
  ·rename_i i v t;split at h<;>try (cases h;done)
   rename_i F;split at h<;>try (cases h;done)
   rename_i B D;split at h<;>try (cases h;done)
   rename_i x w;split at h<;>try (cases h;done)
   rename_i y p;cases h;simp only[wai]at l n;refine step (rest':=rest) (jet w) p (by rw[l];simp) (by rw[n];simp) (.inl ⟨i,v,B,x,pre,y.1++post,?_,qc F,D,w,by rw[n];simp,λm E=>by rw[l];simp[E],rfl⟩);rw[l];exact zfv (zfv t)
  ·rename_i t;split at h<;>try (cases h;done)
   rename_i d g;split at h<;>try (cases h;done)
   rename_i y p;cases h;refine step (rest':=rest) (x:=([d],[])) ?_ p (by rw[l]) (by rw[n];simp) (.inr ⟨by rw[l];exact zfv (zfv t),d,pre,y.1++post,g,by rw[n];simp,rfl⟩);cases a<;>first|(cases g;done)|rfl
theorem zpn{E:EF}{ds:List Dyn}:∀(L:List (Nat×HS))(r:PR)(pre post:List Dyn),zwo E L=some r->ds=pre++r.1++post->r.1.length=zrl L/\∀i,je4 ds L pre.length i=.dead\/∃s q b a,Qr s (E i)=some q/\ds=b++q.1++a/\(∀m∈q.2,m∈r.2)/\je4 ds L pre.length i=unT ds s b.length
 |[],r,pre,post,h,c=>by simp only[zwo]at h;cases h;exact⟨rfl,λi=> .inl (by simp only[je4])⟩
 |e::L,r,pre,post,h,c=>by
  simp only[zwo]at h;obtain⟨q,y,j,u,rfl⟩:=zbu h;simp only[wai]at c;have g:=zqx _ _ _ j;have l:(pre++q.1).length=pre.length+zlw e.2:=by simp[g]
  obtain⟨v,k⟩:=zpn (ds:=ds) L y (pre++q.1) post u (by rw[c];simp);rw[l]at k;refine⟨by simp[wai,zrl,g,v],λi=>?_⟩;simp only[je4];split
  ·rename_i t;have:=qc t;subst this;exact .inr ⟨e.2,q,pre,y.1++post,j,by rw[c];simp,λm f=>by simp[wai,f],rfl⟩
  ·rcases k i with d|⟨s,w,b,a,d,n,o,p⟩
   ·exact .inl d
   ·exact .inr ⟨s,w,b,a,d,n,λm f=>by simp[wai,o m f],p⟩
def V2(mp:List (Nat×MV))(V:Nm->Value):Nm->Value
 |.o X=>match zbw mp X with
  |some (.id i _)=>V (.o i)
  |some .nil => .slice none 0 0
  |none=>V (.o X)
 |.c X j=>match zbw mp X with
  |some (.id i _)=>V (.c i j)
  |_=>V (.c X j)
 |.r x=>V (.r x)
def RestOk(b:Nat)(R:PHeap):Prop:=∀i a,(R i).body=some a->∀c∈a.cs,IdOk b c
def GhOk(b:Nat)(W:Env):Prop:=∀i,IdOk b (W.G i)
theorem zhb{t:Ty}:∀{xs:List TS}{l:List t.D},zhv t xs=some l->RefL (qd xs) (l.flatMap (jq t))/\l.length=xs.length
 |[],l,h=>by simp only[zhv]at h;cases h;simp only[qd,wfx];exact⟨RefL.nil,rfl⟩
 |x::xs,l,h=>by
  simp only[zhv]at h;split at h<;>try (cases h;done)
  rename_i a d;split at h<;>try (cases h;done)
  rename_i f e;cases h;obtain⟨b,c⟩:=zhb e;refine⟨?_,by simp[c]⟩;simp only[qd,wdd];exact RefL.append (zbt t x a d).1 b
theorem z21{Z:ZM}{b d:PHeap}{f V2:Nm->Value}(l:∀id g,(d id).body.isSome=true->qf (V2 id)=some g->∃i,(b i).body.isSome=true/\V2 id=f i){c:Nat}(h:¬PZ Z b f c):¬PZ Z d V2 c:=by
 rintro(a|⟨id,a,j⟩)
 ·exact h (.inl a)
 ·obtain⟨i,k,e⟩:=l id c a j;exact h (.inr ⟨i,k,by rw[<- e];exact j⟩)
theorem HRel.ren{P:Program}{W o:Env}{s k:PHeap}{n V2:Nm->Value}{w:World}(r:HRel P W s n w)(σ:Nm->Nm)(C:o.w=W.w)(t:o.Z=W.Z)(F:∀i,Rp W.Z k V2 w (o.G i) (o.gv i))
  (B:∀id j,(k id).body=some j->(V2 id=.slice none 0 0/\j.Is w W.w.heap.size (.slice none 0 0) []/\j.cs=[])\/∃c,(s (σ id)).body=some c/\V2 id=n (σ id)/\∀m,c.Is w W.w.heap.size (n (σ id)) m->RpL W.Z s n w c.cs m->j.Is w W.w.heap.size (n (σ id)) m/\RpL W.Z k V2 w j.cs m)
  (hi:∀id a g,(k id).body.isSome=true->(k a).body.isSome=true->qf (V2 id)=some g->qf (V2 a)=some g->σ id=σ a->id=a):HRel P o k V2 w:=by
 have l:∀id g,(k id).body.isSome=true->qf (V2 id)=some g->(s (σ id)).body.isSome=true/\V2 id=n (σ id):=λid g h u=>by
  obtain⟨j,A⟩:=wdi.1 h;rcases B id j A with⟨e,_⟩|⟨c,f,d,_⟩
  ·rw[e]at u;cases u
  ·exact⟨by rw[f];rfl,d⟩
 refine⟨by rw[C];exact r.below,λid j u=>?_,λi=>by rw[t];exact F i,λid a g f d q z=>?_,by rw[t];exact r.zlt,λid b f d=>?_⟩
 ·rw[C,t];rcases B id j u with⟨e,f,d⟩|⟨c,f,d,q⟩
  ·rw[e,d];exact⟨[],f,rfl,λi p v h=>by simp at h⟩
  ·obtain⟨m,H,I⟩:=r.body _ _ f;obtain⟨K,L⟩:=q m H I;exact⟨m,by rw[d];exact K,L⟩
 ·obtain⟨x,y⟩:=l id g f q;obtain⟨D,E⟩:=l a g d z;exact hi id a g f d q z (r.apart _ _ g x D (by rw[<- y];exact q) (by rw[<- E];exact z))
 ·obtain⟨x,y⟩:=l id b f d;rw[t];exact r.nz _ b x (by rw[<- y];exact d)
theorem Is.que{w:World}{m:Nat}{v:Value}{vs:List Value}{t:TypeId}{k n:Nat}{cs b:List PV}(h:(PBody.row t k n cs).Is w m v vs):(PBody.que t k n b).Is w m v vs:=by
 refine⟨v,0,[],by rw[wdo];exact h.1,by simp,?_,h.2⟩;rcases h.1.2 with⟨e,h0⟩|⟨g,a,c,e,_,_,d,_⟩
 ·exact⟨none,0,0,none,e,e,wcq _,wcq _,.inl ⟨rfl,rfl⟩⟩
 ·exact⟨_,n,a,_,e,e,wem _,d,.inr ⟨g,0,rfl,rfl,.inl (by simp)⟩⟩
theorem zny{w:World}{m:Nat}{ds pre post:List Dyn}{b:HB}{d:Dyn}(h:jly b=some d)(i:ds=pre++d::post)(X v:Nat):((unB ds b pre.length).den X v).Is w m (.slice none 0 0) []/\((unB ds b pre.length).den X v).cs=[]/\∀j,(unB ds b pre.length).ch j=none:=by
 have g:∀{t:Ty}(x:t.D),d=⟨t,x⟩->getD ds t pre.length x=x:=λ{t}x e=>by
  subst e;unfold getD;rw[zn4 (a:=pre) (c:=post) (d:=⟨t,x⟩) i];split
  ·rename_i y k;have:=wag k;injection this with _ e2
   exact e2.symm
  ·rfl
 have l:w.ownsRow m 0 0 (.slice none 0 0) 0 []:=⟨by simp,.inl ⟨rfl,rfl⟩⟩
 cases b<;>simp only[jly]at h<;>try (cases h;done)
 ·cases h;simp only[unB,g _ rfl];exact⟨⟨⟨by simp,.inl ⟨rfl,rfl⟩⟩,λu f=>by simp at f⟩,rfl,λj=>rfl⟩
 ·cases h;simp only[unB,g _ rfl];exact⟨⟨.slice none 0 0,0,[],⟨by simp,.inl ⟨rfl,rfl⟩⟩,by simp,⟨none,0,0,none,rfl,rfl,wcq _,wcq _,.inl ⟨rfl,rfl⟩⟩,λu f=>by simp at f⟩,rfl,λj=>rfl⟩
 ·cases h;simp only[unB,g _ rfl];exact⟨⟨⟨by simp,.inl ⟨rfl,rfl⟩⟩,λu f=>by simp at f⟩,rfl,λj=>rfl⟩
theorem jin{t:Ty}{x y:t.D}{ds pre post:List Dyn}(h:ds=pre ++ ⟨t,x⟩::post):getD ds t pre.length y=x:=by
 unfold getD;rw[zn4 (a:=pre) (c:=post) (d:=⟨t,x⟩) h];have:(Dyn.mk t x).as t=some x:=by
  simp only[Dyn.as,jkb];split
  ·rfl
  ·rename_i b;rw[zc8]at b;cases b
 rw[this]
inductive Pk(ds pre post:List Dyn)(x:PR):BD->BD->Prop
 |row {tid:TypeId}{t:Ty}{l:List t.D}:Pk ds pre post x (.row tid t l) (.row tid t l)
 |read {tid:TypeId}{t:Ty}{xs:List TS}{l:List t.D}(h:RefL (qd xs) (l.flatMap (jq t))/\l.length=xs.length):Pk ds pre post x (.rowx tid (wid t) xs) (.row tid t l)
 |rowx {tid:TypeId}{k:Nat}{hs:List HS}{xs:List TS}(hp:za5 hs xs=some x) (hl:hs.length=xs.length):Pk ds pre post x (.rowx tid k xs) (.rowx tid k (zis ds hs pre.length))
 |box {tid:TypeId}{hs:List HS}{xs:List TS}(hp:za5 hs xs=some x):Pk ds pre post x (.box tid xs) (.box tid (zis ds hs pre.length))
 |obj {k:RK}{y:k.ty.D}:Pk ds pre post x (.obj k y) (.obj k y)
 |que {tid:TypeId}{t:Ty}{l:List t.D}:Pk ds pre post x (.que tid t l) (.que tid t l)
 |rowq {tid:TypeId}{t:Ty}{l:List t.D}:Pk ds pre post x (.row tid t l) (.que tid t l)
 |rows {tid it:TypeId}{t:Ty}{l:List (List t.D)}{kv:Nat}:Pk ds pre post x (.rows tid it t l kv none) (.rows tid it t l 0 none)
 |mrows {kt:Ty}{it:TypeId}{t:Ty}{l:List (kt.D×List t.D×Unit)}{kv:Nat}:Pk ds pre post x (.mrows kt it t l kv none) (.mrows kt it t l 0 none)
 |iter {Y mid mver:Nat}{mask:List Bool}{last:Option Nat}(hx:(Y,.id mid mver)∈x.2):Pk ds pre post x (.iter mid mver mask last) (.iter Y 1 mask none)
theorem zvu{ds pre post:List Dyn}{h:HB}{bd:BD}{x:PR}(b:z0o h bd=some x)(j:ds=pre++x.1++post):Pk ds pre post x bd (unB ds h pre.length):=by
 have d:∀{t:Ty}{y z:t.D},x.1=[⟨t,y⟩]->getD ds t pre.length z=y:=λ{t y z}e=>jin (post:=post) (by rw[j,e];simp);unfold z0o at b;split at b<;>try (cases b;done)
 ·split at b<;>try (cases b;done)
  rename_i a;cases qc a;split at b<;>cases b;rename_i f c;cases wag c;simp only[unB,d (y:=f) rfl];exact .row
 ·rename_i m t i k n;split at b<;>try (cases b;done)
  rename_i a;simp only[wcl]at a;cases qc a.1;cases qc a.2;split at b<;>cases b;rename_i l g;simp only[unB,d (t :=.sl t) (y:=l) rfl];exact .read (zhb g)
 ·split at b<;>try (cases b;done)
  rename_i a;simp only[wcl]at a;cases qc a.1.1;cases qc a.1.2;exact .rowx b (qc a.2)
 ·split at b<;>try (cases b;done)
  rename_i a;cases qc a;exact .box b
 ·split at b<;>try (cases b;done)
  rename_i a;cases wa9 a;split at b<;>cases b;rename_i c;cases wag c;simp only[unB];rw[d rfl];exact .obj
 ·split at b<;>try (cases b;done)
  rename_i a;cases qc a;split at b<;>cases b;rename_i f c;cases wag c;simp only[unB,d (y:=f) rfl];exact .que
 ·split at b<;>try (cases b;done)
  rename_i a;cases qc a;split at b<;>cases b;rename_i f c;cases wag c;simp only[unB,d (y:=f) rfl];exact .rowq
 ·split at b<;>try (cases b;done)
  rename_i a;simp only[wcl]at a;cases qc a.1;cases qc a.2;split at b<;>cases b;rename_i f c;cases wag c;simp only[unB,d (y:=f) rfl];exact .rows
 ·split at b<;>try (cases b;done)
  rename_i a;cases qc a;split at b<;>cases b;rename_i f c;cases wag c;simp only[unB,d (y:=f) rfl];exact .mrows
 ·cases b;simp only[unB];rw[d rfl];exact .iter (by simp)
theorem Pk.ch{ds pre post:List Dyn}{x:PR}{bd a:BD}(h:Pk ds pre post x bd a)(j:Nat):a.ch j=bd.ch j:=by cases h<;>rfl
theorem Pk.ok{Z:ZM}{H e:PHeap}{V V':Nm->Value}{w:World}(B:∀p v,NoP p->Rp Z H V w p v->Rp Z e V' w p v){ds pre post:List Dyn}{bd G:BD}{x:PR}{i X m cv:Nat}(h:Pk ds pre post x bd G)(I:ds=pre++x.1++post)(C:∀m∈x.2,jiw Z H e V V' w m.1 m.2)
  (q:∀j v,Rp Z H V w (.ps (.c i j) cv) v->Rp Z e V' w (.ps (.c X j) 1) v){v:Value}{vs:List Value}(a:(bd.den i cv).Is w m v vs) (d:RpL Z H V w (bd.den i cv).cs vs):(G.den X 1).Is w m v vs/\RpL Z e V' w (G.den X 1).cs vs:=by
 have told:∀{t:Ty}{l:List t.D}{cs vs},RefL cs (l.flatMap (jq t))->RpL Z H V w cs vs->RpL Z e V' w (l.flatMap (jq t)) vs:=λ{t l cs vs}q f=>by
  have:=q.rpL f;refine waj this λc q v f=>B c v ?_ f;obtain⟨z,_,hz⟩:=wds.1 q;exact yg t z c hz
 have kids:∀{n:Nat}{vs},RpL Z H V w ((List.range n).map (Hole.cell i cv none)) vs->RpL Z e V' w ((List.range n).map (Hole.cell X 1 none)) vs:=λ{n vs}f=>by
  refine⟨by have:=f.1;simpa using this,λj p v a d=>?_⟩;rw[wcp]at a;obtain⟨S,E,rfl⟩:=wcs.1 a;exact q S v (f.2 j _ v (by rw[wcp,E];rfl) d)
 cases h with
 |row=>exact⟨a,told (RefL.refl _) d⟩
 |read h=>refine⟨?_,told h.1 d⟩;simp only[BD.den,h.2];exact a
 |rowx F Q=>refine⟨?_,(zuz B ds _ _ x pre post F I C).2 vs d⟩;simp only[BD.den,z5r,Q];exact a
 |box F=>exact⟨a,(zuz B ds _ _ x pre post F I C).2 vs d⟩
 |obj=>
  rename_i k y;obtain⟨p,φ,s⟩:=k.den_raw y;simp only[BD.den,s]at a d⊢;exact⟨a,d.1,λi p v h=>by simp[PBody.cs]at h⟩
 |que=>exact⟨a,told (RefL.refl _) d⟩
 |rowq=>exact⟨Is.que a,told (RefL.refl _) d⟩
 |rows=>exact⟨a,kids d⟩
 |mrows=>exact⟨a,kids d⟩
 |iter R=>
  refine⟨?_,d.1,λj p u A P=>?_⟩
  ·obtain⟨g,o,K,L,M,b,r,s,N,O,_⟩:=a;exact⟨g,o,K,L,M,b,r,s,N,O,λj E=>by cases E⟩
  cases j with
  |zero=>
   simp only[BD.den,itB,PBody.cs,we2,wdn]at A;subst A;exact(C _ R).1 u (d.2 0 _ u rfl P)
  |succ j=>simp[BD.den,itB,PBody.cs]at A
section
variable{P:Program}{W:Env}{n b:Nat}{E:EF}{G:EG}{R:PHeap}{h:LH}{r:PR}
def sg(mp:List (Nat×MV)):Nm->Nm
 |.o X=>match zbw mp X with
  |some (.id i _) => .o i
  |_ => .o X
 |.c X j=>match zbw mp X with
  |some (.id i _) => .c i j
  |_ => .c X j
 |.r x => .r x
theorem jj1(hp:jg2 b h E G=some r)(hg:GhOk b W)(hR:RestOk b R){V:Nm->Value}{a:Act}{w:World}(hr:Rel P W n (zh E) (qn G R) V a w):∃V',Rel P W n (zh (unE h r.1)) (qn (unG h r.1) R) V' a w:=by
 unfold jg2 at hp;split at hp<;>try (cases hp;done)
 rename_i x hx;split at hp<;>try (cases hp;done)
 rename_i y hy;simp only at hp;split at hp<;>try (cases hp;done)
 rename_i b3;cases hp;simp only[wcl]at b3;obtain⟨d7,a0⟩:=b3;generalize O:mp0 b++x.2++y.2=full at *;have a5:=z19 d7;have a0:=(zmc a0).2;generalize c4:x.1++y.1=ds at *;have d8:x.1.length=zrl h.slots:=(zpn (ds:=x.1) h.slots x [] [] hx (by simp)).1;obtain⟨S,b8⟩:=z1f (G:=G) (full:=full) (ds:=ds) h.heap (mp0 b++x.2) y [] x.1 [] hy (by rw[<- O];simp) (by rw[<- c4];simp);rw[d8]at S b8;have b6:∀X u,ztu ds h.heap (zrl h.slots) X=some u->unG h ds X=⟨1,some u⟩:=λX u e=>by unfold unG;rw[e]
 have d3:∀X,ztu ds h.heap (zrl h.slots) X=none->unG h ds X=⟨0,none⟩:=λX e=>by unfold unG;rw[e]
 -- each live block of the new heap
 have D:∀X u,(unG h ds X).b=some u->(unG h ds X).ver=1/\∃A,(X,A)∈h.heap/\jcc G full ds X A u:=λX u e=>by
  cases hu:ztu ds h.heap (zrl h.slots) X with
  |none=>rw[d3 X hu]at e;cases e
  |some d9=>
   rw[b6 X d9 hu]at e⊢;cases e;exact⟨rfl,S X u hu⟩
 have c3:∀X u,(unG h ds X).b=some u->(unG h ds X).cv=1:=λX u e=>by
  obtain⟨B,A,_,L⟩:=D X u e;have hk:u.kv=0:=by
   rcases L with⟨_,_,_,_,_,_,_,_,_,_,_,_,rfl⟩|⟨_,_,_,_,_,_,rfl⟩<;>cases A<;>rfl
  unfold GB.cv;rw[e,B];simp only[hk]
 have a9:∀{X},zbw full X=some .nil->V2 full V (.o X)=.slice none 0 0:=λ{X}e=>by simp only[V2,e]
 have k:∀{X i l},zbw full X=some (.id i l)->V2 full V (.o X)=V (.o i)/\sg full (.o X)=.o i/\∀j,V2 full V (.c X j)=V (.c i j)/\sg full (.c X j)=.c i j:=λ{X i l}e=>by refine⟨?_,?_,λj=>⟨?_,?_⟩⟩<;>simp only[V2,sg,e]
 -- what each live name stands for
 have a1:∀Y F,(qn (unG h ds) R Y).body=some F->V2 full V Y=.slice none 0 0/\F.Is w W.w.heap.size (.slice none 0 0) []/\F.cs=[]\/∃a8,(qn G R (sg full Y)).body=some a8/\V2 full V Y=V (sg full Y):=by
  intro Y F H;cases Y with
  |o X=>
   obtain⟨u,A,rfl⟩:=wcs.1 (show(unG h ds X).b.map (BD.den X (unG h ds X).cv)=some F from H);obtain⟨_,K,_,L⟩:=D X u A;rcases L with⟨i,l,N,x',z,post,f,I,C,_⟩|⟨f,d,z,post,hn,M,rfl⟩
   ·refine .inr ⟨N.den i (G i).cv,?_,?_⟩
    ·rw[(k f).2.1];simp[qn,v6,C]
    ·rw[(k f).2.1,(k f).1]
   ·obtain⟨k1,Q,_⟩:=zny (w:=w) (m:=W.w.heap.size) hn M X (unG h ds X).cv;exact .inl ⟨a9 f,k1,Q⟩
  |c X j=>
   obtain⟨u,A,T⟩:=wdm.1 (show(unG h ds X).b.bind (λb=>b.ch j)=some F from H);obtain⟨_,K,_,L⟩:=D X u A;rcases L with⟨i,l,N,x',z,post,f,I,C,a3,M,_,rfl⟩|⟨f,d,z,post,hn,M,rfl⟩
   ·have hk:=zvu a3 M;refine .inr ⟨F,?_,?_⟩
    ·rw[((k f).2.2 j).2];rw[hk.ch]at T;simp[qn,zac,C,T]
    ·rw[((k f).2.2 j).2,((k f).2.2 j).1]
   ·rw[(zny (w:=w) (m:=0) hn M X 0).2.2 j]at T;cases T
  |r y=>exact .inr ⟨F,H,rfl⟩
 have hz:∀c,c<w.heap.size->¬PZ W.Z (qn G R) V c->¬PZ W.Z (qn (unG h ds) R) (V2 full V) c:=λc _ B=>z21 (λY g hs A=>by
  obtain⟨F,H⟩:=wdi.1 hs;rcases a1 Y F H with⟨e,_⟩|⟨a8,U,e⟩
  ·rw[e]at A;cases A
  ·exact⟨_,by rw[U];rfl,e⟩) B
 have hT:∀p v,NoP p->Rp W.Z (qn G R) V w p v->Rp W.Z (qn (unG h ds) R) (V2 full V) w p v:=λp v hn I=>Rp.noP I hn hz;have J:∀m∈full,jiw W.Z (qn G R) (qn (unG h ds) R) V (V2 full V) w m.1 m.2:=by
  rintro⟨X,m⟩ hm;obtain⟨B,U⟩:=a5 _ hm;simp only at B U⊢;obtain⟨u,hu⟩:=b8 X U;have a6:(qn (unG h ds) R (.o X)).ver=1:=by show(unG h ds X).ver=1;rw[b6 X u hu]
  obtain⟨A,c6,L⟩:=S X u hu;rcases L with⟨i,l,F,x',z,post,f,I,C,_⟩|⟨f,_⟩
  ·rw[B]at f;cases f;have c2:(qn G R (.o i)).body.isSome=true:=by simp[qn,v6,C]
   refine⟨λv b9=>?_,λf6 v b9=>?_⟩
   ·cases b9 with
    |ps _ _ _ k1 Q=>exact .ps _ _ _ (by rw[a6];exact wcq _) λ_ _=>by rw[(k B).1];exact Q c2 I
   ·cases b9 with
    |pp _ _ _ _ k1 Q=>exact .pp _ _ _ _ (by rw[a6];exact wcq _) λ_ _=>by rw[(k B).1];exact Q c2 I
  ·rw[B]at f;cases f;exact .ps _ _ _ (by rw[a6];exact wcq _) λ_ _=>by rw[a9 B]
 have a4:∀c v,IdOk b c->Rp W.Z (qn G R) V w c v->Rp W.Z (qn (unG h ds) R) (V2 full V) w c v:=λc v hi I=>Rp.keep I hi hz λY e2 H c5=>by
  cases Y with
  |o X=>
   obtain⟨B,U⟩:=a5 (X,.id X 1) (by rw[<- O];simp[jnk H]);obtain⟨u,hu⟩:=b8 X U;obtain⟨A,c6,L⟩:=S X u hu;rcases L with⟨i',l,F,x',z,post,f,I,C,_⟩|⟨f,_⟩
   ·rw[B]at f;cases f;have e:(qn (unG h ds) R (.o X)).ver=(qn G R (.o X)).ver:=by
     show(unG h ds X).ver=(G X).ver;rw[b6 X u hu,I]
    exact⟨by rw[e];exact c5,λ_ h4=>⟨by simp[qn,v6,C],by rw[<- e];exact h4,(k B).1⟩⟩
   ·rw[B]at f;cases f
  |c X j=>exact H.elim
  |r y=>exact⟨c5,λh h4=>⟨h,h4,rfl⟩⟩
 refine⟨V2 full V,HRel.ren hr.heap (sg full) rfl rfl (λi=>a4 _ _ (hg i) (hr.heap.ghost i)) (λY F H=>?_) (λY Y' g B U h3 h4 e=>?_),hr.size,hr.defers,λt=>?_⟩
 ·cases Y with
  |o X=>
   obtain⟨u,A,rfl⟩:=wcs.1 (show(unG h ds X).b.map (BD.den X (unG h ds X).cv)=some F from H);obtain⟨_,K,_,L⟩:=D X u A;rcases L with⟨i,l,N,x',z,post,f,I,C,a3,M,d6,rfl⟩|⟨f,d,z,post,hn,M,rfl⟩
   ·refine .inr ⟨N.den i (G i).cv,by rw[(k f).2.1];simp[qn,v6,C],by rw[(k f).2.1,(k f).1],λvs k1 Q=>?_⟩;have hk:=zvu a3 M;rw[c3 X _ A];refine hk.ok hT M (λm hm=>J m (d6 m hm)) (λj v I=>?_) k1 Q;cases I with
    |ps _ _ _ g1 g2=>
     refine .ps _ _ _ (by show 1<=(unG h ds X).cv;rw[c3 X _ A];exact wcq _) λg3 _=>?_;rw[((k f).2.2 j).1];refine g2 ?_ rfl;simp only[qn,zac,A,C,wdr]at g3⊢;rw[<- hk.ch];exact g3
   ·obtain⟨k1,Q,_⟩:=zny (w:=w) (m:=W.w.heap.size) hn M X (unG h ds X).cv;exact .inl ⟨a9 f,k1,Q⟩
  |c X j=>
   rcases a1 (.c X j) F H with B|⟨a8,B,U⟩
   ·exact .inl B
   ·obtain⟨u,A,T⟩:=wdm.1 (show(unG h ds X).b.bind (λb=>b.ch j)=some F from H);obtain⟨_,K,_,L⟩:=D X u A;rcases L with⟨i,l,N,x',z,post,f,I,C,a3,M,_,rfl⟩|⟨f,d,z,post,hn,M,rfl⟩
    ·have hk:=zvu a3 M;refine .inr ⟨a8,B,U,λvs k1 Q=>?_⟩;rw[((k f).2.2 j).2]at B;rw[hk.ch]at T;simp only[qn,zac,C,wdr,T,wdn]at B;subst B;exact⟨k1,waj Q λc hc v I=>hT c v (jb0 T c hc) I⟩
    ·rw[(zny (w:=w) (m:=0) hn M X 0).2.2 j]at T;cases T
  |r y=>exact .inr ⟨F,H,rfl,λvs k1 Q=>⟨k1,waj Q λc hc v I=>a4 c v (hR y F H c hc) I⟩⟩
 ·-- apart
  have c8:∀Y,(qn (unG h ds) R Y).body.isSome=true->qf (V2 full V Y)=some g->(∃X i l A,(X,A)∈h.heap/\zbw full X=some (.id i l)/\((Y=.o X/\sg full Y=.o i)\/∃j,Y=.c X j/\sg full Y=.c i j))\/∃y,Y=.r y:=by
   intro Y hs A;cases Y with
   |o X=>
    obtain⟨F,H⟩:=wdi.1 hs;obtain⟨u,b7,rfl⟩:=wcs.1 (show(unG h ds X).b.map (BD.den X (unG h ds X).cv)=some F from H);obtain⟨_,K,hm,L⟩:=D X u b7;rcases L with⟨i,l,N,x',z,post,f,_⟩|⟨f,_⟩
    ·exact .inl ⟨X,i,l,K,hm,f,.inl ⟨rfl,(k f).2.1⟩⟩
    ·rw[a9 f]at A;cases A
   |c X j=>
    obtain⟨F,H⟩:=wdi.1 hs;obtain⟨u,b7,T⟩:=wdm.1 (show(unG h ds X).b.bind (λb=>b.ch j)=some F from H);obtain⟨_,K,hm,L⟩:=D X u b7;rcases L with⟨i,l,N,x',z,post,f,_⟩|⟨f,d,z,post,hn,M,rfl⟩
    ·exact .inl ⟨X,i,l,K,hm,f,.inr ⟨j,rfl,((k f).2.2 j).2⟩⟩
    ·rw[(zny (w:=w) (m:=0) hn M X 0).2.2 j]at T;cases T
   |r y=>exact .inr ⟨y,rfl⟩
  rcases c8 Y B h3 with⟨X,i,l,A,m1,l1,⟨rfl,s1⟩|⟨j,rfl,s1⟩⟩|⟨y,rfl⟩ <;>
   rcases c8 Y' U h4 with⟨X',i',c9,K,m2,l2,⟨rfl,s2⟩|⟨j',rfl,s2⟩⟩|⟨y',rfl⟩
  all_goals first
   |(rw[s1,s2]at e;cases e;done)
   |(rw[s1,s2]at e;cases e;have:=a0 _ m1 _ m2 i l c9 l1 l2;simp only at this;rw[this])
   |(rw[s1]at e;cases e;done)
   |(rw[s2]at e;cases e;done)
   |(cases e;rfl)
 ·have hs:=hr.slot t;show Rp _ _ _ _ ((unE h ds t).den) _;obtain⟨_,Q⟩:=zpn (E:=E) (ds:=ds) h.slots x [] y.1 hx (by rw[<- c4];simp);rcases Q t with e|⟨s,q,z,post,B,U,h3,h4⟩
  ·have:unE h ds t=.dead:=e;rw[this];simp only[TS.den];exact .unk _
  ·have:unE h ds t=unT ds s z.length:=h4;rw[this];exact(jae hT ds s (E t) q z post B U λm hm=>J m (by rw[<- O];simp[h3 m hm])).2 _ hs
end
section
variable{A κ:Type}(D:Nat → κ → Bool)(c:Nat → κ → A)(s0:κ → A)
def st(S:Nat->Bool):Nat->κ->A
 |0,k=>s0 k
 |m+1,k=>if(S m && D m k)=true then c m k else st S m k
variable{D c s0}
theorem zyb{S:Nat->Bool}{i:Nat}{k:κ}:∀N,i<=N->(∀m,m<N->D m k=true->(S m=true↔m<i))->st D c s0 S N k=st D c s0 (λ_=>true) i k
 |0,g,h=>by
  have:i=0:=by omega
  subst this;rfl
 |N+1,g,h=>by
  by_cases e:i=N+1
  ·subst e;clear g;have f:∀M,M<=N+1->st D c s0 S M k=st D c s0 (λ_=>true) M k:=by
    intro M;induction M with
    |zero=>intro _;rfl
    |succ M d=>
     intro l;simp only[st];rw[d (by omega)];by_cases a:D M k=true
     ·have:=(h M (by omega) a).2 (by omega);rw[this,a]
     ·have:D M k=false:=by cases b:D M k;rfl;exact absurd b a
      rw[this];simp
   exact f _ (wcq _)
  ·have d:=zyb N (by omega) (λm n=>h m (by omega));simp only[st];by_cases a:D N k=true
   ·have:¬S N=true:=λj=>by have:=(h N (by omega) a).1 j;omega
    have:S N=false:=by cases b:S N;rfl;exact absurd b this
    rw[this];simpa using d
   ·have:D N k=false:=by cases b:D N k;rfl;exact absurd b a
    rw[this];simpa using d
theorem jbq{S d:Nat->Bool}{i:Nat}{k:κ}(hi:d i=true)(b:∀m,m≠i->d m=S m):∀N,i<N->D i k=true->(∀m,i<m->m<N->D m k=true->S m=false)->st D c s0 d N k=c i k
 |0,h,_,_=>by omega
 |N+1,h,f,g=>by
  simp only[st];by_cases e:i=N
  ·subst e;rw[hi,f];simp
  ·have o:=jbq hi b N (by omega) f (λm l p=>g m l (by omega));rw[o,b N (λj=>e j.symm)];by_cases a:D N k=true
   ·rw[g N (by omega) (by omega) a];simp
   ·have:D N k=false:=by cases n:D N k;rfl;exact absurd n a
    rw[this];simp
theorem z4m{S b:Nat->Bool}{i:Nat}{k:κ}(a:∀m,m≠i->b m=S m)(d:D i k=false):∀N,st D c s0 b N k=st D c s0 S N k
 |0=>rfl
 |N+1=>by
  simp only[st];rw[z4m a d N];by_cases e:N=i
  ·subst e;rw[d];simp
  ·rw[a N e]
theorem ja3{S a:Nat->Bool}{k:κ}:∀N,(∀m,m<N->S m=a m)->st D c s0 S N k=st D c s0 a N k
 |0,_=>rfl
 |N+1,h=>by
  simp only[st];rw[ja3 N λm b=>h m (by omega),h N (by omega)]
theorem zya{S:Nat->Bool}{k:κ}:∀N,st D c s0 S N k=s0 k\/∃m,m<N/\D m k=true/\st D c s0 S N k=c m k
 |0 => .inl rfl
 |N+1=>by
  simp only[st];by_cases h:(S N && D N k)=true
  ·rw[if_pos h];simp only[wcl]at h;exact .inr ⟨N,by omega,h.2,rfl⟩
  ·rw[if_neg h];rcases zya N with a|⟨m,a,b,d⟩
   ·exact .inl a
   ·exact .inr ⟨m,by omega,b,d⟩
end
inductive Waits(ops:Array Oper):Nat->Nat->Prop
 |edge {i j:Nat}{o:Oper}{e:Edge}(ho:ops[j]?=some o) (he:e∈o.after) (hb:Region.binds .any e=true) (hi:e.on=i):Waits ops i j
 |trans {i j k:Nat}(h1:Waits ops i j) (h2:Waits ops j k):Waits ops i k
def Closed(ops:Array Oper)(S:Nat->Bool):Prop:=∀j o,S j=true->ops[j]?=some o->∀e∈o.after,Region.binds .any e=true->S e.on=true
theorem Closed.waits{ops:Array Oper}{S:Nat->Bool}(h:Closed ops S){i j:Nat}(k:Waits ops i j):S j=true->S i=true:=by
 induction k with
 |edge g e d f=>intro a;subst f;exact h _ _ a g _ e d
 |trans _ _ b c=>exact λa=>b (c a)
def ja0(a:List Nat):List Edge->Nat
 |[]=>0
 |e::r=>match Region.binds .any e with
  |true=>Nat.lor (Nat.lor (Nat.shiftLeft 1 e.on) (a.getD e.on 0)) (ja0 a r)
  |false=>ja0 a r
def jnq:List Oper->List Nat->List Nat
 |[],a=>a
 |o::l,a=>jnq l (a++[ja0 a o.after.toList])
theorem z4v{ops:Array Oper}{b:List Nat}{j:Nat}{o:Oper}(f:ops[j]?=some o)(a:∀k i,Nat.testBit (b.getD k 0) i=true->Waits ops i k):∀(l:List Edge),(∀e∈l,e∈o.after)->∀i,Nat.testBit (ja0 b l) i=true->Waits ops i j
 |[],_,i,h=>by simp[ja0]at h
 |e::l,d,i,h=>by
  simp only[ja0]at h;split at h
  ·rename_i n;have m:(Nat.testBit (1 <<< e.on) i ||Nat.testBit (b.getD e.on 0) i ||Nat.testBit (ja0 b l) i)=true:=by
    rw[<- Nat.testBit_or,<- Nat.testBit_or];exact h
   simp only[Bool.or_eq_true]at m;rcases m with(c|c)|c
   ·have:e.on=i:=by
     have:=c;rw[Nat.one_shiftLeft,Nat.testBit_two_pow]at this;simpa using this
    exact .edge f (d e (by simp)) n this
   ·exact .trans (a _ _ c) (.edge f (d e (by simp)) n rfl)
   ·exact z4v f a l (λe g=>d e (by simp[g])) i c
  ·exact z4v f a l (λe g=>d e (by simp[g])) i h
theorem jb1{ops:Array Oper}:∀(l:List Oper)(a:List Nat),(∀k o,l[k]?=some o->ops[a.length+k]?=some o)->(∀k i,Nat.testBit (a.getD k 0) i=true->Waits ops i k)->∀k i,Nat.testBit ((jnq l a).getD k 0) i=true->Waits ops i k
 |[],a,_,h,k,i,c=>h k i c
 |o::l,a,d,h,k,i,c=>by
  simp only[jnq]at c;refine jb1 l _ (λk m b=>?_) (λk i b=>?_) k i c
  ·have:=d (k+1) m (by simpa using b);rw[wcu,wc5];rw[<- this];congr 1;omega
  ·rw[wdg]at b;by_cases e:k<a.length
   ·rw[wcr e,<- wdg]at b;exact h k i b
   ·rw[wct (by omega)]at b;by_cases g:k=a.length
    ·subst g;have f:=d 0 o rfl;simp only[wd5]at f;simp only[wfy,we2,wda]at b;exact z4v f h _ (λe j=>by simpa using j) i b
    ·rw[wdt (by simp;omega)]at b;simp at b
def ids(ws:List (Nat×GB))(k:Nm):Bool:=match k.rt with
 |some i=>ws.any λx=>Nat.beq x.1 i
 |none=>false
def zeo(ws:List (Nat×GB))(k:Nm):zlj:=match ws with
 |[]=>⟨0,none⟩
 |x::r=>if ids r k=true then zeo r k else if k.rt=some x.1 then Qe x.2 k else⟨0,none⟩
def qz(H:PHeap):List (Nat×GB)->PHeap
 |[]=>H
 |x::r=>qz (zl1 H x.1 x.2) r
theorem Vy{ws:List (Nat×GB)}{k:Nm}:ids ws k=true↔∃i∈ws.map Prod.fst,k.rt=some i:=by
 unfold ids;cases d:k.rt with
 |none=>simp
 |some i=>
  simp only[wep,wcz,wdn];constructor
  ·rintro⟨x,a,b⟩;exact⟨i,⟨x,a,wcj b⟩,rfl⟩
  ·rintro⟨j,⟨x,a,rfl⟩,c⟩;exact⟨x,a,by rw[c];simp⟩
theorem zgx:∀(ws:List (Nat×GB))(H:PHeap)(k:Nm),qz H ws k=if ids ws k=true then zeo ws k else H k
 |[],H,k=>by unfold ids;cases k.rt<;>simp[qz]
 |x::r,H,k=>by
  simp only[qz];rw[zgx r];by_cases b:ids r k=true
  ·rw[if_pos b];have:ids (x::r) k=true:=by
    obtain⟨i,a,c⟩:=Vy.1 b;exact Vy.2 ⟨i,by simp only[wc4,wc1];exact .inr a,c⟩
   rw[if_pos this,zeo,if_pos b]
  ·rw[if_neg b];unfold zl1;by_cases e:k.rt=some x.1
   ·have:ids (x::r) k=true:=Vy.2 ⟨x.1,by simp,e⟩;rw[if_pos e,if_pos this,zeo,if_neg b,if_pos e]
   ·rw[if_neg e];have:¬ids (x::r) k=true:=λh=>by
     obtain⟨i,a,c⟩:=Vy.1 h;simp only[wc4,wc1]at a;rcases a with rfl|a
     ·exact e c
     ·exact b (Vy.2 ⟨i,a,c⟩)
    rw[if_neg this]
structure OC where
 p:PV
 ws:List (Nat×GB)
def zp8(ops:Array Oper)(m:Nat)(t:Nat):Bool:=match (ops[m]?).bind (·.dst)with
 |some d=>Nat.beq d t
 |none=>false
def fAt(ops:Array Oper)(oc:Nat->OC)(F0:PFrame)(S:Nat->Bool)(N:Nat):PFrame:=λt=>st (zp8 ops) (λm _=>(oc m).p) F0 S N t
def hAt(oc:Nat->OC)(H0:PHeap)(S:Nat->Bool)(N:Nat):PHeap:=λk=>st (λm k=>ids (oc m).ws k) (λm k=>zeo (oc m).ws k) H0 S N k
def z3f(P:Program)(W:Env)(n:Nat)(ops:Array Oper)(o:Oper)(F:PFrame)(H:PHeap)(c:OC):Prop:=
 (V3 ops o F=some true/\PE P W n o F H (λp a=>p=c.p/\a=qz H c.ws))\/(V3 ops o F=some false/\Y4 n o/\c.p=.u undef/\c.ws=[])
def Meet(ops:Array Oper)(rt:Nat->Nm->Bool)(oc:Nat->OC)(i j:Nat):Prop:=
 (∃t,zp8 ops i t=true/\(zp8 ops j t=true\/∃o,ops[j]?=some o/\t∈o.looksAt ops))\/(∃t,zp8 ops j t=true/\∃o,ops[i]?=some o/\t∈o.looksAt ops) \/
 (∃k,ids (oc i).ws k=true/\(ids (oc j).ws k=true\/rt j k=true))\/(∃k,ids (oc j).ws k=true/\rt i k=true)
section
variable{P:Program}{W:Env}{n:Nat}{ops:Array Oper}{oc:Nat → OC}{rt:Nat → Nm → Bool}{F0:PFrame}{H0:PHeap}
theorem zwe{a:Array Bool}{i:Nat}(h:i∈Region.ready .any ops a):∃o,ops[i]?=some o/\a.getD i true=false/\∀e∈o.after,Region.binds .any e=true->a.getD e.on false=true:=by
 unfold Region.ready at h;obtain⟨g,b⟩:=wey.1 h;simp only[wcl,weg]at b;cases c:ops[i]? with
 |none=>rw[c]at b;simp at b
 |some o=>
  rw[c]at b;refine⟨o,rfl,b.1,λe f d=>?_⟩;have:=b.2;simp only[wc3,wda,Array.all_eq_true']at this;have:=this e f;simpa [d]using this
theorem jg9{Q':Exit->Act->World->Prop}{Inv:PFrame->PHeap->Prop}(a8:∀S,Inv (fAt ops oc F0 S ops.size) (hAt oc H0 S ops.size))
  (a9:∀i o,ops[i]?=some o->∀F H,Inv F H->(∀t∈o.looksAt ops,F t=fAt ops oc F0 (λ_=>true) i t)->(∀k,(rt i k=true\/ids (oc i).ws k=true)->H k=hAt oc H0 (λ_=>true) i k)->z3f P W n ops o F H (oc i))
  (c:∀i j,i<j->j<ops.size->Meet ops rt oc i j->Waits ops i j)
  (a7:∀j o,ops[j]?=some o->∀e∈o.after,Region.binds .any e=true->e.on<j)
  (hQ:∀V a w,Rel P W n (fAt ops oc F0 (λ_=>true) ops.size) (hAt oc H0 (λ_=>true) ops.size) V a w->Q' .normal a w) :
  ∀(fuel:Nat)(b:Array Bool)(V:Nm->Value)(a:Act)(w:World),b.size=ops.size->((List.range ops.size).filter λi=>!b.getD i false).length<=fuel->Closed ops (λi=>b.getD i false) ->
   Rel P W n (fAt ops oc F0 (λi=>b.getD i false) ops.size) (hAt oc H0 (λi=>b.getD i false) ops.size) V a w->wpAny P .any ops Q' fuel b a w:=by
 have A:∀(b:Array Bool)(V:Nm->Value)(a:Act)(w:World),b.size=ops.size->Region.ready .any ops b=[]->Rel P W n (fAt ops oc F0 (λi=>b.getD i false) ops.size) (hAt oc H0 (λi=>b.getD i false) ops.size) V a w->Q' .normal a w:=by
  intro b V a w B hr f;have M:∀m,m<ops.size->b.getD m false=true:=by
   intro m;induction m using Nat.strongRecOn with
   |ind m ih=>
    intro q;cases O:b.getD m false
    ·exfalso;have:m∈Region.ready .any ops b:=by
      unfold Region.ready;refine wey.2 ⟨wef.2 q,?_⟩;have z:ops[m]?=some ops[m]:=wdj q;have b8:b.getD m true=false:=by
       rw[wd0,wdj (by omega)]at O⊢;simpa using O
      rw[z];simp only[b8,Bool.not_false,wea,wc3,wda,Array.all_eq_true'];intro e he;cases N:Region.binds .any e
      ·rfl
      ·have:=a7 m _ z e he N;simp only[Bool.not_true,wfz];exact ih _ this (by omega)
     rw[hr]at this;cases this
    ·rfl
  refine hQ V a w ?_;have e1:fAt ops oc F0 (λi=>b.getD i false) ops.size=fAt ops oc F0 (λ_=>true) ops.size:=by
   funext t;exact ja3 _ λm q=>by simp[M m q]
  have e2:hAt oc H0 (λi=>b.getD i false) ops.size=hAt oc H0 (λ_=>true) ops.size:=by
   funext t;exact ja3 _ λm q=>by simp[M m q]
  rw[<- e1,<- e2];exact f
 intro fuel;induction fuel with
 |zero=>
  intro b V a w B hf G f;have Q:Region.ready .any ops b=[]:=by
   cases hr:Region.ready .any ops b with
   |nil=>rfl
   |cons i r=>
    exfalso;have hi:i∈Region.ready .any ops b:=by rw[hr];simp
    obtain⟨o,z,O,_⟩:=zwe hi;have v:i<ops.size:=(wdh.1 z).1;have:i∈(List.range ops.size).filter λi=>!b.getD i false:=by
     refine wey.2 ⟨wef.2 v,?_⟩;rw[wd0,wdj (by omega)]at O⊢;simpa using O
    have:=List.length_pos_of_mem this;omega
  exact⟨Q,A b V a w B Q f⟩
 |succ fuel ih=>
  intro b V a w B hf G f;refine⟨λh0=>A b V a w B h0 f,λi hi=>?_⟩;obtain⟨o,z,O,a6⟩:=zwe hi;have v:i<ops.size:=(wdh.1 z).1;have L:b.getD i false=false:=by
   rw[wd0,wdj (by omega)]at O⊢;simpa using O
  have g:∀m,(b.setIfInBounds i true).getD m false=if m=i then true else b.getD m false:=by
   intro m;simp only[wd0];by_cases e:m=i
   ·subst e;rw[if_pos rfl,Array.getElem?_setIfInBounds_self_of_lt (by omega)];rfl
   ·rw[if_neg e,wfg (λh=>e h.symm)]
  have R:∀m,Waits ops m i->b.getD m false=true:=by
   intro m J;have c6:∀{x y:Nat},Waits ops x y->y=i->b.getD x false=true:=by
    intro x y c3;induction c3 with
    |edge b0 he N b9=>
     intro e;subst e;rw[z]at b0;cases b0;rw[<- b9];exact a6 _ he N
    |trans C E d3 c5=>
     intro e;have:=c5 e;exact G.waits C this
   exact c6 J rfl
  have s:∀m,Waits ops i m->b.getD m false=false:=by
   intro m J;cases q:b.getD m false
   ·rfl
   ·exact absurd (G.waits J q) (by rw[L];simp)
  have U:∀t∈o.looksAt ops,fAt ops oc F0 (λi=>b.getD i false) ops.size t=fAt ops oc F0 (λ_=>true) i t:=by
   intro t ht;refine zyb _ (by omega) λm q D=>?_;rcases Nat.lt_trichotomy m i with h|h|h
   ·have:=R m (c m i h v (.inl ⟨t,D,.inr ⟨o,z,ht⟩⟩));exact⟨λ_=>h,λ_=>this⟩
   ·subst h;simp[L]
   ·have:=s m (c i m h q (.inr (.inl ⟨t,D,o,z,ht⟩)));simp[this];omega
  have T:∀k,(rt i k=true\/ids (oc i).ws k=true)->hAt oc H0 (λi=>b.getD i false) ops.size k=hAt oc H0 (λ_=>true) i k:=by
   intro k hk;refine zyb _ (by omega) λm q D=>?_;rcases Nat.lt_trichotomy m i with h|h|h
   ·have:=R m (c m i h v (.inr (.inr (.inl ⟨k,D,hk.symm⟩))));exact⟨λ_=>h,λ_=>this⟩
   ·subst h;simp[L]
   ·have:Waits ops i m:=by
     rcases hk with hk|hk
     ·exact c i m h q (.inr (.inr (.inr ⟨k,D,hk⟩)))
     ·exact c i m h q (.inr (.inr (.inl ⟨k,hk,.inl D⟩)))
    have:=s m this;simp[this];omega
  have Z:=a9 i o z _ _ (a8 _) U T;have b4:fAt ops oc F0 (λm=>(b.setIfInBounds i true).getD m false) ops.size=(fAt ops oc F0 (λm=>b.getD m false) ops.size).put o.dst (oc i).p:=by
   funext t;unfold PFrame.put;by_cases e:o.dst=some t
   ·rw[if_pos e];have K:zp8 ops i t=true:=by unfold zp8;rw[z];simp[e]
    refine jbq (S:=λm=>b.getD m false) (i:=i) (by simp[g]) (λm q=>?_) ops.size v K λm C E h3=>?_
    ·exact(g m).trans (if_neg q)
    ·exact s m (c i m C E (.inl ⟨t,K,.inl h3⟩))
   ·rw[if_neg e];have K:zp8 ops i t=false:=by
     unfold zp8;rw[z];simp only[wdr];cases D:o.dst with
     |none=>rfl
     |some d=>
      simp only;cases N:Nat.beq d t
      ·rfl
      ·rw[D,wcj N]at e;exact absurd rfl e
    exact z4m (i:=i) (λm q=>(g m).trans (if_neg q)) K ops.size
  have b5:hAt oc H0 (λm=>(b.setIfInBounds i true).getD m false) ops.size=qz (hAt oc H0 (λm=>b.getD m false) ops.size) (oc i).ws:=by
   funext k;rw[zgx];by_cases e:ids (oc i).ws k=true
   ·rw[if_pos e];refine jbq (S:=λm=>b.getD m false) (i:=i) (by simp[g]) (λm q=>(g m).trans (if_neg q)) ops.size v e λm C E h3=>?_;exact s m (c i m C E (.inr (.inr (.inl ⟨k,e,.inl h3⟩))))
   ·rw[if_neg e];have e':ids (oc i).ws k=false:=by cases hh:ids (oc i).ws k;rfl;exact absurd hh e
    exact z4m (i:=i) (λm q=>(g m).trans (if_neg q)) e' ops.size
  have a5:Closed ops (λm=>(b.setIfInBounds i true).getD m false):=by
   intro j oj hj X e he N;simp only[g]at hj⊢;by_cases E:e.on=i
   ·rw[if_pos E]
   ·rw[if_neg E];by_cases C:j=i
    ·subst C;rw[z]at X;cases X;exact a6 e he N
    ·rw[if_neg C]at hj;exact G j oj hj X e he N
  have I:((List.range ops.size).filter λm=>!(b.setIfInBounds i true).getD m false).length<=fuel:=by
   have C:i∈(List.range ops.size).filter λi=>!b.getD i false:=wey.2 ⟨wef.2 v,by simp[L]⟩;have E:((List.range ops.size).filter λm=>!(b.setIfInBounds i true).getD m false)=((List.range ops.size).filter λi=>!b.getD i false).filter λm=>decide (m≠i):=by
    rw[List.filter_filter];refine List.filter_congr λm _=>?_;rw[g];by_cases e:m=i
    ·subst e;simp
    ·simp[e]
   rw[E];have:=List.length_filter_lt_length_iff_exists (p:=λm=>decide (m≠i)) (l:=(List.range ops.size).filter λi=>!b.getD i false);have:=this.2 ⟨i,C,by simp⟩;omega
  have next:∀V' a' w',Rel P W n ((fAt ops oc F0 (λm=>b.getD m false) ops.size).put o.dst (oc i).p) (qz (hAt oc H0 (λm=>b.getD m false) ops.size) (oc i).ws) V' a' w'->wpAny P .any ops Q' fuel (b.setIfInBounds i true) a' w':=λV' a' w' Y=>
   ih _ V' a' w' (by simp[B]) I a5 (by rw[b4,b5];exact Y)
  unfold wpOp;simp only[z];rcases Z with⟨J,c0⟩|⟨J,D,hp,c2⟩
  ·rw[zb3 J f.slot];simp only[if_true];exact .inl (jb4 (c0 V a w f) λa' w'⟨p,H',V',⟨e1,e2⟩,Y⟩=>next V' a' w' (by rw[<- e1,<- e2];exact Y))
  ·rw[zb3 J f.slot];simp only[wdp,if_false];refine next V _ w ?_
   rw[hp,c2];exact f.put (Below.refl _ _) o.dst D (.u _)
theorem wbr{id:Nat}{Q:Exit->PFrame->PHeap->Prop}{Inv:PFrame->PHeap->Prop}(f:∀S,Inv (fAt ops oc F0 S ops.size) (hAt oc H0 S ops.size))(hm:P.follows .mixedOrders=true)
  (g:∀i o,ops[i]?=some o->∀F H,Inv F H->(∀t∈o.looksAt ops,F t=fAt ops oc F0 (λ_=>true) i t)->(∀k,(rt i k=true\/ids (oc i).ws k=true)->H k=hAt oc H0 (λ_=>true) i k)->z3f P W n ops o F H (oc i))
  (b:∀i j,i<j->j<ops.size->Meet ops rt oc i j->Waits ops i j)
  (d:∀j o,ops[j]?=some o->∀e∈o.after,Region.binds .any e=true->e.on<j)
  (s:Q .normal (fAt ops oc F0 (λ_=>true) ops.size) (hAt oc H0 (λ_=>true) ops.size)):PC P W n (.region id ops true) F0 H0 Q:=λV a w Q' v h=>by
 refine wp_region_any hm ?_;have h0:∀i,(Array.replicate ops.size false).getD i false=false:=by
  intro i;rw[wd0,Array.getElem?_replicate];split<;>rfl
 have u:(λi=>(Array.replicate ops.size false).getD i false)=λ_=>false:=funext h0;have m:∀{A κ:Type}(D:Nat->κ->Bool)(c:Nat->κ->A)(s0:κ->A)(N:Nat)(k:κ),st D c s0 (λ_=>false) N k=s0 k:=by
  intro A κ D c s0 N k;induction N with
  |zero=>rfl
  |succ N x=>simp only[st,Bool.false_and,wdp,if_false];exact x
 refine jg9 (Q':=Q') f g b d (λy z B l=>h _ _ _ _ _ _ s l) ops.size _ V a _ (by simp) ?_ ?_ ?_
 ·exact wdk (wen _ _) (by simp)
 ·intro j o p;simp only[h0]at p;cases p
 ·rw[u];have q:fAt ops oc F0 (λ_=>false) ops.size=F0:=by funext t;exact m _ _ _ _ _
  have r:hAt oc H0 (λ_=>false) ops.size=H0:=by funext t;exact m _ _ _ _ _
  rw[q,r];exact v.drawn
end
def ja{α β:Type}(o:Option α)(f:α->Option β):Option β:=match o with
 |none=>none
 |some a=>f a
theorem yb{α β:Type}{o:Option α}{f:α->Option β}{r:β}(h:ja o f=some r):∃a,o=some a/\f a=some r:=by
 cases o with
 |none=>cases h
 |some a=>exact⟨a,rfl,h⟩
def ifB{β:Type}(c:Bool)(x y:Option β):Option β:=match c with
 |true=>x
 |false=>y
def jn{σ β:Type}(B:σ->(σ->Option β)->Option β):Nat->σ->Option β
 |0,_=>none
 |m+1,s=>B s (jn B m)
def J{σ β:Type}(rest:σ->Option β)(A:(σ->Option β)->Option β):Option β:=A rest
@[reducible] def DL:List Ty->Type
 |[]=>Unit
 |[t]=>t.D
 |t::u::a=>t.D×DL (u::a)
def z5k:(ts:List Ty)->List Dyn->Option (DL ts)
 |[],[]=>some ()
 |[t],[d]=>d.as t
 |t::u::ts,d::a=>match d.as t with
  |none=>none
  |some x=>match z5k (u::ts) a with
   |none=>none
   |some y=>some (x,y)
 |_,_=>none
def zu:(ts:List Ty)->DL ts->List Dyn
 |[],_=>[]
 |[t],x=>[⟨t,x⟩]
 |t::u::ts,x=>⟨t,x.1⟩::zu (u::ts) x.2
theorem jc5:∀{ts:List Ty}{l:List Dyn}{d:DL ts},z5k ts l=some d->zu ts d=l
 |[],l,d,h=>by
  cases l with
  |nil=>rfl
  |cons _ _=>simp[z5k]at h
 |[t],l,d,h=>by
  match l,h with
  |[e],h=>simp only[z5k]at h;simp only[zu,wag h]
  |[],h=>simp[z5k]at h
  |_::_::_,h=>simp[z5k]at h
 |t::u::ts,l,d,h=>by
  cases l with
  |nil=>simp[z5k]at h
  |cons e l=>
   simp only[z5k]at h;split at h<;>try (cases h;done)
   rename_i x a;split at h<;>try (cases h;done)
   rename_i y b;cases h;simp only[zu,wag a,jc5 b]
mutual
def tysT:HS->List Ty
 |.v t=>[t]
 |.rd t=>[t]
 |.fn _ a b=>zvw a++zvw b
 |.agg c=>zvw c
 |.tup c=>zvw c
 |_=>[]
def zvw:List HS->List Ty
 |[]=>[]
 |h::a=>tysT h++zvw a
end
def tysB:HB->List Ty
 |.row _ t=>[.sl t]
 |.rowx _ _ a=>zvw a
 |.box _ a=>zvw a
 |.obj k=>[k.ty]
 |.que _ t=>[.sl t]
 |.rows _ _ t=>[.sl (.sl t)]
 |.mrows b _ t=>[mty b t]
 |.iter _=>[.sl .bool]
def jo0:List (Nat×HS)->List Ty
 |[]=>[]
 |h::a=>tysT h.2++jo0 a
def jo7:List (Nat×HB)->List Ty
 |[]=>[]
 |h::a=>tysB h.2++jo7 a
def LH.tys(h:LH):List Ty:=jo0 h.slots++jo7 h.heap
def jas(b:Nat)(h:LH)(E:EF)(G:EG):Option (DL h.tys):=match jg2 b h E G with
 |some r=>z5k h.tys r.1
 |none=>none
def meet{β:Type}(b:Nat)(h:LH)(j:DL h.tys->Option β)(E:EF)(G:EG):Option β:=match jas b h E G with
 |some t=>j t
 |none=>none
structure SR where
 α:Type
 imm:Bool
 o:Option α
 s:α->TS
 w:α->List (Nat×GB)
 rd:List Nat
 tc:List Nat
 fz:List Nat
def sets(G:EG):List (Nat×GB)->EG
 |[]=>G
 |x::r=>sets (G.set x.1 x.2) r
theorem z2a(R:PHeap):∀(ws:List (Nat×GB))(G:EG),qn (sets G ws) R=qz (qn G R) ws
 |[],G=>rfl
 |x::r,G=>by simp only[sets,qz];rw[z2a R r,z79]
def AgN(H:PHeap)(G:EG)(id:Nat):Prop:=H (.o id)=v6 id (G id)/\∀j,H (.c id j)=zac (G id) j
theorem wb3{H:PHeap}{G:EG}{id:Nat}(h:∀k:Nm,k.rt=some id->H k=Qe (G id) k):AgN H G id:=⟨h (.o id) rfl,λj=>h (.c id j) rfl⟩
theorem AgN.at{H:PHeap}{G:EG}{id:Nat}(h:AgN H G id){k:Nm}(a:k.rt=some id):H k=Qe (G id) k:=by
 cases k<;>cases a
 ·exact h.1
 ·exact h.2 _
def zle(H:PHeap):List (Nat×GB)->PHeap
 |[]=>H
 |x::r=>zle (H.set (.o x.1) (v6 x.1 x.2)) r
def jb5(G:EG):List (Nat×GB)->Bool
 |[]=>true
 |x::r=>match (G x.1).flat && x.2.flat && Nat.ble (G x.1).ver x.2.ver with
  |true=>jb5 G r
  |false=>false
theorem zvl{G:EG}:∀{ws:List (Nat×GB)},jb5 G ws=true->∀x∈ws,(G x.1).flat=true/\x.2.flat=true/\(G x.1).ver<=x.2.ver
 |[],_,x,a=>by cases a
 |y::r,h,x,a=>by
  simp only[jb5]at h;split at h<;>try (cases h;done)
  rename_i b;rcases wc1.1 a with rfl|a
  ·simp only[wcl]at b;exact⟨b.1.1,b.1.2,wd2 b.2⟩
  ·exact zvl h x a
def wbd(l:List Nat):Nm->Bool
 |.c i _=>l.any (Nat.beq i)
 |_=>false
theorem z7f:∀{ws:List (Nat×GB)}{H a:PHeap}{k:Nm},H k=a k->wbd (ws.map Prod.fst) k=false->zle H ws k=qz a ws k
 |[],H,a,k,h,_=>h
 |x::r,H,a,k,h,b=>by
  show zle (H.set (.o x.1) (v6 x.1 x.2)) r k=qz (zl1 a x.1 x.2) r k;refine z7f (ws:=r) ?_ ?_
  ·cases k with
   |o i=>
    unfold PHeap.set zl1;by_cases e:i=x.1
    ·subst e;simp[Nm.rt,Qe]
    ·simp[Nm.rt,e,h]
   |c i j=>
    unfold PHeap.set zl1;by_cases e:i=x.1
    ·subst e;simp[wbd]at b
    ·simp[Nm.rt,e,h]
   |r x=>unfold PHeap.set zl1;simp[Nm.rt,h]
  ·cases k with
   |c i j=>simp only[wbd,wc4,List.any_cons,Bool.or_eq_false_iff]at b⊢;exact b.2
   |_=>rfl
theorem jc0:∀{ws:List (Nat×GB)}{H:PHeap}{i j:Nat},zle H ws (.c i j)=H (.c i j)
 |[],H,i,j=>rfl
 |x::r,H,i,j=>by
  simp only[zle];rw[jc0];simp[PHeap.set]
theorem jb8:∀{ws:List (Nat×GB)}{H:PHeap}{i j:Nat},(∃x∈ws,x.1=i/\qz H ws (.c i j)=zac x.2 j)\/qz H ws (.c i j)=H (.c i j)/\∀x∈ws,x.1≠i
 |[],H,i,j => .inr ⟨rfl,λx h=>by cases h⟩
 |x::r,H,i,j=>by
  simp only[qz];rcases jb8 (ws:=r) (H:=zl1 H x.1 x.2) (i:=i) (j:=j)with⟨y,a,b,f⟩|⟨a,b⟩
  ·exact .inl ⟨y,by simp[a],b,f⟩
  ·by_cases e:x.1=i
   ·refine .inl ⟨x,by simp,e,?_⟩;rw[a];unfold zl1;simp[Nm.rt,e,Qe]
   ·refine .inr ⟨?_,λy d=>?_⟩
    ·rw[a];unfold zl1;simp[Nm.rt,Ne.symm e]
    ·rcases wc1.1 d with rfl|d
     ·exact e
     ·exact b y d
theorem z9p{ws:List (Nat×GB)}{H:PHeap}(h:∀x∈ws,x.2.flat=true/\∀j,(H (.c x.1 j)).ver<=x.2.ver):jbh (zle H ws) (qz H ws) (wbd (ws.map Prod.fst)):=λk=>⟨λa=>(z7f rfl a).symm,λa=>by
 cases k with
 |o i=>cases a
 |r x=>cases a
 |c i j=>
  rw[jc0];rcases jb8 (ws:=ws) (H:=H) (i:=i) (j:=j)with⟨x,b,d,e⟩|⟨b,d⟩
  ·subst d;rw[e,zpe (h x b).1];exact⟨rfl,(h x b).2 j⟩
  ·simp only[wbd,List.any_map,wep]at a;obtain⟨x,e,f⟩:=a;exact absurd (wcj f).symm (d x e)⟩
theorem PE.less{P:Program}{W:Env}{n:Nat}{o:Oper}{F:PFrame}{H e d:PHeap}{p0:PV}{D:Nm->Bool}(h:PE P W n o F H λp c=>p=p0/\c=e)(f:jbh e d D):PE P W n o F H λp c=>p=p0/\c=d:=λV a w k=>
 Oper.wp_mono (λl m⟨p,c,g,⟨i,j⟩,b⟩=>by
  subst i;subst j;exact⟨p,d,g,⟨rfl,rfl⟩,b.heap.less f,b.size,b.defers,λt=>(b.slot t).less f⟩) (h V a w k)
def zky(l:List Nat)(x:Nat):Bool:=l.any (Nat.beq x)
def zgh(D:List Nat)(G:EG):EG:=λid=>match zky D id with
 |true=>⟨(G id).cv+1,none⟩
 |false=>G id
def zgb(D:List Nat)(G:EG):List (Nat×GB):=D.map λid=>(id,⟨(G id).cv+1,none⟩)
theorem zbk(D:List Nat)(G:EG):(zgb D G).map Prod.fst=D:=by unfold zgb;rw[wd8];exact List.map_id' D
def SOk(P:Program)(o:Oper)(E:EF)(G:EG)(q:SR):Prop:=
 (∀x,(q.w x).map Prod.fst=q.tc)/\∀x,q.o=some x->∀(W:Env)(n:Nat)(F:PFrame)(H:PHeap),FlW W F H->Y4 n o->(∀t,Operand.tmp t∈o.op.operands->F t=(E t).den)->(∀id,id∈q.rd\/id∈q.tc\/id∈q.fz->AgN H G id) ->
  PE P W n o F H (λp a=>p=(q.s x).den/\a=zle (qz H (zgb q.fz G)) (q.w x))
structure RT where
 rd:List Nat
 tc:List Nat
structure SK where
 run:{β:Type}->(TS->List (Nat×GB)->RT->Option β)->Option β
def jjh(P:Program)(o:Oper)(E:EF)(G:EG)(s:TS)(ws:List (Nat×GB))(rt:RT):Prop:=
 (∀id∈ws.map Prod.fst,id∈rt.tc)/\∀(W:Env)(n:Nat)(F:PFrame)(H:PHeap),FlW W F H->Y4 n o->(∀t,Operand.tmp t∈o.op.operands->F t=(E t).den)->(∀id,id∈rt.rd\/id∈ws.map Prod.fst->AgN H G id) ->
  PE P W n o F H (λp a=>p=s.den/\a=qz H ws)
def zxk(P:Program)(o:Oper)(E:EF)(G:EG)(q:SK):Prop:=
 ∀{β:Type}(k:TS->List (Nat×GB)->RT->Option β)(r:β),q.run k=some r->∃s a rt,k s a rt=some r/\(∀{γ:Type}(b:TS->List (Nat×GB)->RT->Option γ),q.run b=b s a rt)/\jjh P o E G s a rt
abbrev SyT:=Nat->Nat->Nat->Oper->EF->EG->Option SK
def zw3(P:Program)(sy:SyT):Prop:=∀ctx b a o E G q,sy ctx b a o E G=some q->zxk P o E G q
def z5x{β:Type}(q:SR)(k:q.α->Option β):Option β:=match q.imm with
 |true=>match q.o with
  |some x=>k x
  |none=>none
 |false=>ja q.o k
theorem z13{β:Type}{q:SR}{k:q.α->Option β}{r:β}(h:z5x q k=some r):∃x,q.o=some x/\k x=some r:=by
 unfold z5x at h;split at h
 ·split at h
  ·exact⟨_,by assumption,h⟩
  ·cases h
 ·exact yb h
def jer(n:Nat)(o:Oper):Bool:=match o.dst with
 |none=>true
 |some d=>Nat.blt d n
theorem z3m{n:Nat}{o:Oper}(h:jer n o=true):Y4 n o:=λt a=>by
 unfold jer at h;rw[a]at h;simpa [wfk]using h
def SR.k(G:EG)(q:SR):SK:=⟨λk=>z5x q λx=>match jb5 (zgh q.fz G) (q.w x)with
 |true=>k (q.s x) (zgb q.fz G++q.w x) ⟨q.rd,q.fz++q.tc⟩
 |false=>none⟩
theorem zmu:∀(a b:List (Nat×GB))(H:PHeap),qz H (a++b)=qz (qz H a) b
 |[],b,H=>rfl
 |x::a,b,H=>by simp only[we4,qz];exact zmu a b _
theorem jbt:∀{D:List Nat}{G:EG}{H:PHeap}{id:Nat},id∈D\/AgN H G id->AgN (qz H (zgb D G)) (zgh D G) id:=λ{D G H id}h=>by
 have m:∀{k:Nm},k.rt=some id->qz H (zgb D G) k=Qe (zgh D G id) k:=λ{k}b=>by
  rw[zgx];by_cases d:id∈D
  ·have l:zgh D G id=⟨(G id).cv+1,none⟩:=by
    unfold zgh zky;rw[wep.2 ⟨id,d,wev id⟩]
   rw[if_pos (Vy.2 ⟨id,by rw[zbk];exact d,b⟩),l];have:∀{L:List Nat},id∈L->zeo (zgb L G) k=Qe ⟨(G id).cv+1,none⟩ k:=by
    intro L;induction L with
    |nil=>intro h;cases h
    |cons a L n=>
     intro h;show(if ids (zgb L G) k=true then zeo (zgb L G) k else if k.rt=some a then Qe ⟨(G a).cv+1,none⟩ k else⟨0,none⟩)=_;by_cases g:id∈L
     ·rw[if_pos (Vy.2 ⟨id,by rw[zbk];exact g,b⟩),n g]
     ·rcases wc1.1 h with rfl|j
      ·rw[if_neg,if_pos b];intro e;obtain⟨i,c,f⟩:=Vy.1 e;rw[b]at f;cases f;rw[zbk]at c;exact g c
      ·exact absurd j g
   exact this d
  ·have l:zgh D G id=G id:=by
    unfold zgh zky;cases j:D.any (Nat.beq id)with
    |true=>
     obtain⟨x,e,c⟩:=wep.1 j;rw[wcj c]at d;exact absurd e d
    |false=>rfl
   rw[if_neg,l]
   ·rcases h with h|h
    ·exact absurd h d
    ·exact h.at b
   ·intro e;obtain⟨i,c,f⟩:=Vy.1 e;rw[b]at f;cases f;rw[zbk]at c;exact d c
 exact wb3 λk b=>m b
theorem SOk.k{P:Program}{o:Oper}{E:EF}{G:EG}{q:SR}(h:SOk P o E G q):zxk P o E G (q.k G):=λk r p=>by
 obtain⟨x,i,f⟩:=z13 p;split at f<;>try (cases f;done)
 rename_i g;refine⟨q.s x,zgb q.fz G++q.w x,⟨q.rd,q.fz++q.tc⟩,f,λt=>?_,λid a=>by rw[wdb,zbk,h.1 x]at a;exact a,λW n F H e m l b=>?_⟩
 ·show z5x q _=_;unfold z5x;rw[i];cases q.imm<;>simp only[ja,g]
 ·have b:∀id,id∈q.rd\/id∈q.fz\/id∈q.tc->AgN H G id:=λid a=>b id (by rw[wdb,zbk,h.1 x,wco];exact a);have d:=zvl g;rw[zmu];refine PE.less (h.2 x i W n F H e m l λid a=>b id (by
    rcases a with h|h|h
    ·exact .inl h
    ·exact .inr (.inr h)
    ·exact .inr (.inl h))) (z9p λy c=>⟨(d y c).2.1,λj=>?_⟩)
  rw[(jbt (.inr (b y.1 (.inr (.inr (by rw[<- h.1 x];exact wcz.2 ⟨y,c,rfl⟩)))))).2,zpe (d y c).1];exact(d y c).2.2
def eqb(c w:Bool):Bool:=match c,w with
 |true,true=>true
 |false,false=>true
 |_,_=>false
theorem jbw{c w:Bool}:eqb c w=(c == w):=by cases c<;>cases w<;>rfl
def UND:TS :=.c undef
def NB:Nat:=16
section
variable(sy:SyT)(ctx n:Nat){β:Type}
def do1(b nx i:Nat)(o:Oper)(E:EF)(G:EG)(a:List RT)(k:EF->EG->List RT->Option β):Option β:=match sy ctx (nx+i*NB) (b*64+i) o E G with
 |some q=>q.run λs c rt=>k (E.put o.dst s) (sets G c) (a++[rt])
 |none=>none
def zab(ops:Array Oper)(a nx:Nat):List Oper->Nat->EF->EG->List RT->(EF->EG->List RT->Option β)->Option β
 |[],_,E,G,e,k=>k E G e
 |o::l,i,E,G,e,k=>match jer n o with
  |false=>none
  |true=>match o.guard with
   |none=>do1 sy ctx a nx i o E G e λf g b=>zab ops a nx l (i+1) f g b k
   |some (j,w)=>match (ops[j]?).bind (·.dst)with
    |none=>none
    |some d=>match E d with
     |.c (.bool c)=>match eqb c w with
      |true=>do1 sy ctx a nx i o E G e λf g b=>zab ops a nx l (i+1) f g b k
      |false=>zab ops a nx l (i+1) (E.put o.dst UND) G (e++[⟨[],[]⟩]) k
     |.c (.tuple _)=>zab ops a nx l (i+1) (E.put o.dst UND) G (e++[⟨[],[]⟩]) k
     |.v ⟨.bool,c⟩=>ifB c
      (match w with
      |true=>do1 sy ctx a nx i o (E.put (some d) (.c (.bool true))) G e λf g b=>zab ops a nx l (i+1) f g b k
      |false=>zab ops a nx l (i+1) ((E.put (some d) (.c (.bool true))).put o.dst UND) G (e++[⟨[],[]⟩]) k)
      (match w with
      |false=>do1 sy ctx a nx i o (E.put (some d) (.c (.bool false))) G e λf g b=>zab ops a nx l (i+1) f g b k
      |true=>zab ops a nx l (i+1) ((E.put (some d) (.c (.bool false))).put o.dst UND) G (e++[⟨[],[]⟩]) k)
     |_=>none
end
theorem zob{E:EF}{d:Nat}{s:TS}(h:(E d).den=s.den):zh (E.put (some d) s)=zh E:=by
 rw[zjf];funext t;unfold PFrame.put;by_cases e:some d=some t
 ·rw[if_pos e];cases e;exact h.symm
 ·rw[if_neg e]
theorem zd7{ops:Array Oper}{o:Oper}{j d:Nat}{w c:Bool}{E:EF}{F:PFrame}(e:o.guard=some (j,w))(b:(ops[j]?).bind (·.dst)=some d)(a:F d=.u (.bool c)):V3 ops o F=some (c == w):=by
 unfold V3;rw[e];simp only;rw[b];simp only;rw[a]
theorem jax{ops:Array Oper}{o:Oper}{j d:Nat}{w:Bool}{vs:Array Value}{F:PFrame}(c:o.guard=some (j,w))(b:(ops[j]?).bind (·.dst)=some d)(a:F d=.u (.tuple vs)):V3 ops o F=some false:=by
 unfold V3;rw[c];simp only;rw[b];simp only;rw[a]
inductive Out(P:Program)(n:Nat)(ops:Array Oper)(o:Oper)(E:EF)(G:EG):EF->EG->RT->Prop
 |done {E1:EF}{s:TS}{ws:List (Nat×GB)}{rt:RT}(he:zh E1=zh E) (hd:jer n o=true) (hw:∀F:PFrame,(∀t∈o.looksAt ops,F t=zh E t)->V3 ops o F=some true) (hs:jjh P o E1 G s ws rt):Out P n ops o E G (E1.put o.dst s) (sets G ws) rt
 |skip {E1:EF}(he:zh E1=zh E) (hd:jer n o=true) (hw:∀F:PFrame,(∀t∈o.looksAt ops,F t=zh E t)->V3 ops o F=some false):Out P n ops o E G (E1.put o.dst UND) G ⟨[],[]⟩
theorem z56{ops:Array Oper}{o:Oper}{j d:Nat}{w:Bool}(b:o.guard=some (j,w))(a:(ops[j]?).bind (·.dst)=some d):d∈o.looksAt ops:=by
 unfold Oper.looksAt;rw[b];simp only;rw[a];simp
theorem zm4{P:Program}{sy:SyT}(d:zw3 P sy){ctx:Nat}{β:Type}{b nx i:Nat}{o:Oper}{E1:EF}{G:EG}{a:List RT}{k:EF->EG->List RT->Option β}{r:β}(h:do1 sy ctx b nx i o E1 G a k=some r):
  ∃s c rt,jjh P o E1 G s c rt/\k (E1.put o.dst s) (sets G c) (a++[rt])=some r/\∀{γ:Type}(e:EF->EG->List RT->Option γ),do1 sy ctx b nx i o E1 G a e=e (E1.put o.dst s) (sets G c) (a++[rt]):=by
 unfold do1 at h;split at h<;>try (cases h;done)
 rename_i q f;obtain⟨s,c,rt,j,g,l⟩:=d _ _ _ _ _ _ _ f _ _ h;exact⟨s,c,rt,l,j,λe=>by unfold do1;rw[f];exact g _⟩
theorem jgf{P:Program}{sy:SyT}(y:zw3 P sy){ctx n:Nat}{β:Type}{ops:Array Oper}{z nx:Nat}{o:Oper}{l:List Oper}{i:Nat}{E:EF}{G:EG}{x:List RT}{k:EF->EG->List RT->Option β}{r:β}(h:zab sy ctx n ops z nx (o::l) i E G x k=some r):
  ∃D H rt,Out P n ops o E G D H rt/\zab sy ctx n ops z nx l (i+1) D H (x++[rt]) k=some r/\∀{γ:Type}(v:EF->EG->List RT->Option γ),zab sy ctx n ops z nx (o::l) i E G x v=zab sy ctx n ops z nx l (i+1) D H (x++[rt]) v:=by
 unfold zab at h;split at h<;>try (cases h;done)
 rename_i f;split at h
 ·rename_i b;obtain⟨s,I,rt,q,B,A⟩:=zm4 y h;exact⟨_,_,_,.done rfl f (λF _=>by unfold V3;rw[b]) q,B,λv=>by
   rw[zab];simp only[f,b];exact A _⟩
 ·rename_i j w b;split at h<;>try (cases h;done)
  rename_i d a;have q:=z56 b a;split at h
  ·rename_i c m;have p:∀F:PFrame,(∀t∈o.looksAt ops,F t=zh E t)->F d=.u (.bool c):=λF p=>by rw[p d q];unfold zh;rw[m];simp only[TS.den];rfl
   split at h
   ·rename_i C;obtain⟨s,I,rt,q,B,A⟩:=zm4 y h;refine⟨_,_,_,.done rfl f (λF g=>by rw[zd7 (E:=E) b a (p F g),<- jbw,C]) q,B,λv=>?_⟩;rw[zab];simp only[f,b,a,m,C];exact A _
   ·rename_i C;refine⟨_,_,_,.skip rfl f (λF g=>by rw[zd7 (E:=E) b a (p F g),<- jbw,C]),h,λv=>?_⟩;rw[zab];simp only[f,b,a,m,C]
  ·rename_i K m;refine⟨_,_,_,.skip rfl f (λF g=>jax b a (by rw[g d q];unfold zh;rw[m];simp only[TS.den];rfl)),h,λv=>?_⟩;rw[zab];simp only[f,b,a,m]
  ·rename_i c m;have e:(E d).den=(TS.c (.bool c)).den:=by rw[m];simp only[TS.den];rfl
   have p:∀F:PFrame,(∀t∈o.looksAt ops,F t=zh E t)->F d=.u (.bool c):=λF p=>by rw[p d q];unfold zh;rw[e];simp only[TS.den];rfl
   unfold ifB at h;split at h
   ·split at h
    ·obtain⟨s,I,rt,q,B,A⟩:=zm4 y h;refine⟨_,_,_,.done (zob e) f (λF g=>by rw[zd7 (E:=E) b a (p F g)];rfl) q,B,λv=>?_⟩;rw[zab];simp only[f,b,a,m,ifB];exact A _
    ·refine⟨_,_,_,.skip (zob e) f (λF g=>by rw[zd7 (E:=E) b a (p F g)];rfl),h,λv=>?_⟩;rw[zab];simp only[f,b,a,m,ifB]
   ·split at h
    ·obtain⟨s,I,rt,q,B,A⟩:=zm4 y h;refine⟨_,_,_,.done (zob e) f (λF g=>by rw[zd7 (E:=E) b a (p F g)];rfl) q,B,λv=>?_⟩;rw[zab];simp only[f,b,a,m,ifB];exact A _
    ·refine⟨_,_,_,.skip (zob e) f (λF g=>by rw[zd7 (E:=E) b a (p F g)];rfl),h,λv=>?_⟩;rw[zab];simp only[f,b,a,m,ifB]
  ·cases h
section
variable{P:Program}{W:Env}{n:Nat}{R:PHeap}{sy:SyT}{ctx:Nat}
def jjv(P:Program)(W:Env)(n:Nat)(ops:Array Oper)(R:PHeap)(o:Oper)(E:EF)(G:EG)(c:OC)(rt:RT)(a:EF)(G':EG):Prop:=
 (∀F H,FlW W F H->(∀t∈o.looksAt ops,F t=zh E t)->(∀k:Nm,((∃id∈rt.rd,k.rt=some id)\/ids c.ws k=true)->H k=qn G R k)->z3f P W n ops o F H c) /\
 zh a=(zh E).put o.dst c.p/\qn G' R=qz (qn G R) c.ws/\(∀k:Nm,ids c.ws k=true->∃id∈rt.tc,k.rt=some id)/\Fl c.p/\∀k,FlB (zeo c.ws k)
theorem z6m:∀(ws:List (Nat×GB))(k:Nm),FlB (zeo ws k)
 |[],k=>λa h=>by simp[zeo]at h
 |x::r,k=>by
  simp only[zeo];split
  ·exact z6m r k
  ·split
   ·exact jlm _ _
   ·exact λa h=>by cases h
theorem zzj{ops:Array Oper}{o:Oper}{t:Nat}(h:Operand.tmp t∈o.op.operands):t∈o.looksAt ops:=by
 unfold Oper.looksAt;refine wfj _ ?_;rw[List.mem_filterMap];exact⟨_,by simpa using h,rfl⟩
theorem Out.step{ops:Array Oper}{o:Oper}{E:EF}{G:EG}{q:EF}{G':EG}{rt:RT}(h:Out P n ops o E G q G' rt):∃c,∀W R,jjv P W n ops R o E G c rt q G':=by
 cases h with
 | @done v s z rt f j p x=>
  obtain⟨l,m⟩:=x;refine⟨⟨s.den,z⟩,λW R=>⟨λF H d e r=> .inl ⟨p F e,?_⟩,?_,z2a R _ _,λk b=>?_,zbp _,z6m _⟩⟩
  ·refine m W n F H d (z3m j) (λt y=>?_) λid a=>?_
   ·rw[e t (zzj y),<- f];rfl
   ·refine wb3 λk b=>?_;rw[r k ?_,jlf b];rcases a with a|a
    ·exact .inl ⟨id,a,b⟩
    ·exact .inr (Vy.2 ⟨id,a,b⟩)
  ·rw[zjf,f]
  ·obtain⟨id,g,w⟩:=Vy.1 b;exact⟨id,l id g,w⟩
 | @skip v f j p=>
  refine⟨⟨.u undef,[]⟩,λW R=>⟨λF H d e r=> .inr ⟨p F e,z3m j,rfl,rfl⟩,?_,rfl,λk b=>(by obtain⟨i,g,_⟩:=Vy.1 b;cases g),.noP (.u _),λk A h=>by simp[zeo]at h⟩⟩;rw[zjf,f];congr 1
theorem PE.mono{o:Oper}{F:PFrame}{H:PHeap}{k c:PV->PHeap->Prop}(h:PE P W n o F H k)(g:∀p b,k p b->c p b):PE P W n o F H c:=λV a w i=>
 Oper.wp_mono (λj l⟨p,b,d,e,f⟩=>⟨p,b,d,g p b e,f⟩) (h V a w i)
def RFl(R:PHeap):Prop:=∀i,FlB (R i)
theorem jda(b:∀i,Fl (W.G i))(a:RFl R)(E:EF)(G:EG):FlW W (zh E) (qn G R):=⟨b,λt=>zbp _,λk=>by
 cases k with
 |o i=>exact jb6 i _
 |c i j=>exact jdh _ j
 |r x=>exact a x⟩
inductive Steps(P:Program)(n:Nat)(ops:Array Oper):List Oper->EF->EG->List OC->List RT->EF->EG->Prop
 |nil {E:EF}{G:EG}:Steps P n ops [] E G [] [] E G
 |cons {o:Oper}{l:List Oper}{E E1 E':EF}{G G1 G':EG}{c:OC}{rt:RT}{cs:List OC}{rts:List RT}(h:∀W R,jjv P W n ops R o E G c rt E1 G1) (hs:Steps P n ops l E1 G1 cs rts E' G'):Steps P n ops (o::l) E G (c::cs) (rt::rts) E' G'
theorem Steps.seq(m:∀i,Fl (W.G i))(k:RFl R){ops:Array Oper}{K:PFrame->PHeap->Prop}:∀{l:List Oper}{E a:EF}{G G':EG}{cs:List OC}{g:List RT},Steps P n ops l E G cs g a G'->K (zh a) (qn G' R)->PL P W n ops l (zh E) (qn G R) K
 |[],_,_,_,_,_,_,.nil,c=>PL.nil c
 |o::l,E,a,G,G',_,_,.cons (E1:=E1) (G1:=G1) h w,c=>by
  obtain⟨t,j,b,_⟩:=h W R;have q:=Steps.seq m k w c;rcases t (zh E) (qn G R) (jda m k E G) (λ_ _=>rfl) (λ_ _=>rfl)with⟨e,d⟩|⟨e,u,v,f⟩
  ·refine PL.cons e (PE.mono d λp x⟨r,s⟩=>?_);rw[r,s,<- j,<- b];exact q
  ·refine PL.skip e u ?_;rw[<- v,<- j];rw[f]at b;rw[show qn G R=qn G1 R from b.symm];exact q
theorem zey{β:Type}(g:zw3 P sy){ops:Array Oper}{j nx:Nat}{k:EF->EG->List RT->Option β}{r:β}:∀(l:List Oper)(i:Nat)(E:EF)(G:EG)(a:List RT),zab sy ctx n ops j nx l i E G a k=some r->∃cs b d e,Steps P n ops l E G cs b d e/\k d e (a++b)=some r/\∀{γ:Type}(m:EF->EG->List RT->Option γ),zab sy ctx n ops j nx l i E G a m=m d e (a++b)
 |[],i,E,G,a,h=>⟨[],[],E,G,.nil,by simpa only [zab,wc7]using h,λm=>by simp only[zab,wc7]⟩
 |o::l,i,E,G,a,h=>by
  obtain⟨d,e,rt,f,h,w⟩:=jgf g h;obtain⟨c,v⟩:=f.step;obtain⟨cs,b,p,q,s,t,u⟩:=zey g l (i+1) d e _ h;exact⟨c::cs,rt::b,p,q,.cons v s,by simpa using t,λm=>by rw[w,u];simp⟩
def ocF(cs:List OC)(m:Nat):OC:=cs.getD m ⟨.unk,[]⟩
def rtF(a:List RT)(m:Nat):RT:=a.getD m ⟨[],[]⟩
theorem jj7{ops:Array Oper}{oc:Nat->OC}{F0:PFrame}{i:Nat}{o:Oper}(b:ops[i]?=some o):fAt ops oc F0 (λ_=>true) (i+1)=(fAt ops oc F0 (λ_=>true) i).put o.dst (oc i).p:=by
 funext t;show(if(true && zp8 ops i t)=true then(oc i).p else fAt ops oc F0 (λ_=>true) i t)=_;unfold PFrame.put zp8;rw[b];simp only[wdr,wea];cases o.dst with
 |none=>simp
 |some d=>
  simp only[wdn];by_cases e:d=t
  ·subst e;simp
  ·rw[if_neg e,if_neg];intro a;exact e (wcj a)
theorem jib{oc:Nat->OC}{H0:PHeap}{i:Nat}:hAt oc H0 (λ_=>true) (i+1)=qz (hAt oc H0 (λ_=>true) i) (oc i).ws:=by
 funext k;rw[zgx];show(if(true && ids (oc i).ws k)=true then zeo (oc i).ws k else hAt oc H0 (λ_=>true) i k)=_;simp only[wea]
theorem Steps.at{ops:Array Oper}{F0:PFrame}{H0:PHeap}{oc:Nat->OC}{rtf:Nat->RT}:∀{l:List Oper}{E s:EF}{G G':EG}{cs:List OC}{g:List RT}(i:Nat),Steps P n ops l E G cs g s G'->(∀m o,l[m]?=some o->ops[i+m]?=some o)->(∀m c,cs[m]?=some c->oc (i+m)=c)->(∀m rt,g[m]?=some rt->rtf (i+m)=rt) ->
  zh E=fAt ops oc F0 (λ_=>true) i->qn G R=hAt oc H0 (λ_=>true) i ->
  (∀m o,l[m]?=some o->∀W F H,FlW W F H->(∀t∈o.looksAt ops,F t=fAt ops oc F0 (λ_=>true) (i+m) t)->(∀k:Nm,((∃id∈(rtf (i+m)).rd,k.rt=some id)\/ids (oc (i+m)).ws k=true)->H k=hAt oc H0 (λ_=>true) (i+m) k)->z3f P W n ops o F H (oc (i+m))) /\
  (∀m o,l[m]?=some o->∀k:Nm,ids (oc (i+m)).ws k=true->∃id∈(rtf (i+m)).tc,k.rt=some id) /\
  zh s=fAt ops oc F0 (λ_=>true) (i+l.length)/\qn G' R=hAt oc H0 (λ_=>true) (i+l.length) /\
  ∀m,m<l.length->Fl (oc (i+m)).p/\∀k,FlB (zeo (oc (i+m)).ws k)
 |[],_,_,_,_,_,_,i,.nil,_,_,_,q,r=>⟨λm o h=>by simp at h,λm o h=>by simp at h,q,r,λm h=>by simp at h⟩
 |o::l,E,s,G,G',_,_,i,.cons (c:=c) (rt:=rt) (E1:=E1) (G1:=G1) h C,x,w,y,q,r=>by
  have b:oc i=c:=w 0 c rfl;have d:rtf i=rt:=y 0 rt rfl;have B:ops[i]?=some o:=x 0 o rfl;have e:∀m,i+(m+1)=i+1+m:=λm=>by omega
  obtain⟨I,K,L,M,N⟩:=Steps.at (i+1) C (λm f a=>by rw[<- e];exact x (m+1) f (by simpa using a)) (λm z a=>by rw[<- e];exact w (m+1) z (by simpa using a)) (λm O a=>by rw[<- e];exact y (m+1) O (by simpa using a))
   (by rw[jj7 B,<- q,b];exact(h ⟨default,⟨λ_=>False,0⟩,wem _,λ_=> .unk,λ_=>undef⟩ R).2.1) (by rw[jib,<- r,b];exact(h ⟨default,⟨λ_=>False,0⟩,wem _,λ_=> .unk,λ_=>undef⟩ R).2.2.1)
  refine⟨λm f a=>?_,λm f a=>?_,by rw[wdy,e];exact L,by rw[wdy,e];exact M,λm a=>?_⟩
  ·cases m with
   |zero=>
    simp only[we2,wdn]at a;subst a;intro W F H u v j;simp only[wd5]at v j⊢;rw[b]at j⊢;rw[d]at j;exact(h W R).1 F H u (λt D=>by rw[v t D,q]) λk A=>by rw[j k A,r]
   |succ m=>rw[e];exact I m f (by simpa using a)
  ·cases m with
   |zero=>
    simp only[wd5];rw[b,d];exact(h ⟨default,⟨λ_=>False,0⟩,wem _,λ_=> .unk,λ_=>undef⟩ R).2.2.2.1
   |succ m=>rw[e];exact K m f (by simpa using a)
  ·cases m with
   |zero=>
    simp only[wd5];rw[b];exact(h ⟨default,⟨λ_=>False,0⟩,wem _,λ_=> .unk,λ_=>undef⟩ R).2.2.2.2
   |succ m=>rw[e];exact N m (by simpa using a)
theorem Steps.len{ops:Array Oper}:∀{l:List Oper}{E b:EF}{G G':EG}{cs:List OC}{a:List RT},Steps P n ops l E G cs a b G'->cs.length=l.length/\a.length=l.length
 |[],_,_,_,_,_,_,.nil=>⟨rfl,rfl⟩
 |_::_,_,_,_,_,_,_,.cons h e=>by
  obtain⟨c,d⟩:=e.len;exact⟨by simp[c],by simp[d]⟩
def zli(a b:List Nat):Bool:=a.any (zky b)
theorem joc{l:List Nat}{x:Nat}(h:x∈l):zky l x=true:=wep.2 ⟨x,h,wev x⟩
theorem zd9{a b:List Nat}{x:Nat}(c:x∈a)(d:x∈b):zli a b=true:=wep.2 ⟨x,c,joc d⟩
def jej(o:Oper):List Nat:=match o.dst with
 |some d=>[d]
 |none=>[]
def jdf(ops:Array Oper)(a b:Oper)(c d:RT):Bool:=zli (jej a) (jej b) ||zli (jej a) (b.looksAt ops) ||zli (jej b) (a.looksAt ops) ||zli c.tc d.tc ||zli c.tc d.rd ||zli d.tc c.rd
def z5j(ops:Array Oper)(a:Nat)(c:Oper)(d:RT):Nat->List Oper->List RT->Bool
 |i,e::l,f::b=>(Nat.testBit a i || !(jdf ops e c f d)) && z5j ops a c d (i+1) l b
 |_,_,_=>true
def z4p(ops:Array Oper)(a:List Nat)(pre:List Oper)(prt:List RT):List Oper->List RT->Bool
 |o::l,rt::b=>z5j ops (a.getD pre.length 0) o rt 0 pre prt && z4p ops a (pre++[o]) (prt++[rt]) l b
 |_,_=>true
def jml:Nat->List Oper->Bool
 |_,[]=>true
 |j,o::l=>o.after.toList.all (λe=>!(Region.binds .any e) ||Nat.blt e.on j) && jml (j+1) l
def jaq(ops:Array Oper)(a:List RT):Bool:=jml 0 ops.toList && z4p ops (jnq ops.toList []) [] [] ops.toList a
theorem zr0{ops:Array Oper}{a:Nat}{k:Oper}{n:RT}:∀{l:List Oper}{b:List RT}{i:Nat},z5j ops a k n i l b=true->∀m c d,l[m]?=some c->b[m]?=some d->jdf ops c k d n=true->Nat.testBit a (i+m)=true
 |[],_,_,_,m,c,d,e,_,_=>by simp at e
 |_::_,[],_,_,m,c,d,_,f,_=>by simp at f
 |o::l,rt::b,i,h,m,c,d,e,f,j=>by
  simp only[z5j,wcl,Bool.or_eq_true,weg]at h;cases m with
  |zero=>
   simp at e f;subst e;subst f;rcases h.1 with g|g
   ·exact g
   ·rw[j]at g;cases g
  |succ m=>
   have:=zr0 h.2 m c d (by simpa using e) (by simpa using f) j;rw[<- this];congr 1;omega
theorem zrk{ops:Array Oper}{d:List Nat}:∀{l:List Oper}{a:List RT}{pre:List Oper}{prt:List RT},pre.length=prt.length->z4p ops d pre prt l a=true->∀m b c,l[m]?=some b->a[m]?=some c->∀i g j,i<pre.length+m->(pre++l)[i]?=some g->(prt++a)[i]?=some j->jdf ops g b j c=true->Nat.testBit (d.getD (pre.length+m) 0) i=true
 |[],_,_,_,_,_,m,b,c,e,_,_,_,_,_,_,_,_=>by simp at e
 |_::_,[],_,_,_,_,m,b,c,_,f,_,_,_,_,_,_,_=>by simp at f
 |o::l,rt::a,pre,prt,r,h,m,b,c,e,f,i,g,j,p,k,n,q=>by
  simp only[z4p,wcl]at h;cases m with
  |zero=>
   simp at e f;subst e;subst f;simp only[wd5]at p⊢;have:=zr0 h.1 i g j (by rw[wcr p]at k;exact k) (by rw[wcr (by omega)]at n;exact n) q;simpa using this
  |succ m=>
   have:=zrk (pre:=pre++[o]) (prt:=prt++[rt]) (by simp[r]) h.2 m b c (by simpa using e) (by simpa using f) i g j (by simp;omega) (by simpa using k) (by simpa using n) q;rw[wcu,wc5]at this;rw[show pre.length+(m+1)=pre.length+1+m by omega];exact this
theorem z1c:∀{l:List Oper}{j:Nat},jml j l=true->∀m o,l[m]?=some o->∀e∈o.after,Region.binds .any e=true->e.on<j+m
 |[],_,_,m,o,a,_,_,_=>by simp at a
 |o::l,j,h,m,d,a,e,c,b=>by
  simp only[jml,wcl,wdx]at h;cases m with
  |zero=>
   simp at a;subst a;have:=h.1 e (by simpa using c);rw[b]at this;simpa [wfk]using this
  |succ m=>
   have:=z1c h.2 m d (by simpa using a) e c b;omega
theorem zyj{ops:Array Oper}{i t:Nat}{o:Oper}(b:ops[i]?=some o)(h:zp8 ops i t=true):t∈jej o:=by
 unfold zp8 at h;rw[b]at h;simp only[wdr]at h;unfold jej;split at h
 ·rename_i d a;have e:=wcj h
  first|(rw[a,e];simp;done)|(rw[e];simp)
 ·cases h
theorem Steps.drawn(Y:∀i,Fl (W.G i))(hR:RFl R)(hm:P.follows .mixedOrders=true){ops:Array Oper}{id:Nat}{E X:EF}{G G':EG}{cs:List OC}{d:List RT}(J:Steps P n ops ops.toList E G cs d X G')(s:jaq ops d=true):PC P W n (.region id ops true) (zh E) (qn G R) λe F' H'=>e=.normal/\F'=zh X/\H'=qn G' R:=by
 unfold jaq at s;simp only[wcl]at s;obtain⟨M,K⟩:=s;obtain⟨l1,l2⟩:=J.len;have w:∀(m:Nat)o,ops.toList[m]?=some o->ops[0+m]?=some o:=λm o h=>by rw[wdo];simpa using h
 obtain⟨k1,C,k3,k4,V⟩:=Steps.at (R:=R) (F0:=zh E) (H0:=qn G R) (oc:=ocF cs) (rtf:=rtF d) 0 J w (λm c I=>by unfold ocF;rw[wdo,wdg,I];rfl) (λm rt I=>by unfold rtF;rw[wdo,wdg,I];rfl) rfl rfl;simp only[wdo]at k1 C k3 k4 V;have v:=jb1 (ops:=ops) ops.toList [] (λk o x=>by simpa using x) (λk i x=>by simp at x);refine wbr (oc:=ocF cs) (rt:=λm k=>(rtF d m).rd.any λid=>k.rt == some id) (Inv:=λF H=>FlW W F H) (λS=>⟨Y,λt=>?_,λk=>?_⟩) hm (λi o Q F H L g b=>k1 i o (by simpa using Q) W F H L g λk x=>b k ?_) (λi j N hj O=>?_) (λj o Q e he hb=>?_) ⟨rfl,?_,?_⟩
 ·rcases zya (D:=zp8 ops) (c:=λm _=>(ocF cs m).p) (s0:=zh E) (S:=S) (k:=t) ops.size with e|⟨m,hm,_,e⟩
  ·unfold fAt;rw[e];exact zbp _
  ·unfold fAt;rw[e];exact(V m (by simpa using hm)).1
 ·rcases zya (D:=λm k=>ids (ocF cs m).ws k) (c:=λm k=>zeo (ocF cs m).ws k) (s0:=qn G R) (S:=S) (k:=k) ops.size with e|⟨m,hm,_,e⟩
  ·unfold hAt;rw[e];exact(jda Y hR E G).h k
  ·unfold hAt;rw[e];exact(V m (by simpa using hm)).2 k
 ·rcases x with⟨id,r,h4⟩|r
  ·exact .inl (wep.2 ⟨id,r,by simp[h4]⟩)
  ·exact .inr r
 ·obtain⟨oj,f⟩:∃o,ops[j]?=some o:=⟨_,wdj hj⟩
  obtain⟨oi,l⟩:∃o,ops[i]?=some o:=⟨_,wdj (show i<ops.size by omega)⟩
  have Z:ops.toList.length=ops.size:=by simp
  have U:d[j]?=some (rtF d j):=by unfold rtF;rw[wdg,wcf (by omega)];rfl
  have T:d[i]?=some (rtF d i):=by unfold rtF;rw[wdg,wcf (by omega)];rfl
  refine v j i ?_;have y:=zrk (pre:=[]) (prt:=[]) rfl K j _ _ (by simpa using f) U i _ _ (by simpa using N) (by simpa using l) (by simpa using T);simp only[wfb,wdo]at y;refine y ?_;have z:∀m(k:Nm),((rtF d m).rd.any λid=>k.rt == some id)=true->∃id∈(rtF d m).rd,k.rt=some id:=λm k h=>by
   obtain⟨id,g,b⟩:=wep.1 h;exact⟨id,g,by simpa using b⟩
  unfold jdf;simp only[Bool.or_eq_true];rcases O with⟨t,g,b⟩|⟨t,g,o,b,r⟩|⟨k,g,b⟩|⟨k,g,b⟩
  ·have m1:=zyj l g;rcases b with b|⟨o,b,r⟩
   ·exact .inl (.inl (.inl (.inl (.inl (zd9 m1 (zyj f b))))))
   ·rw[f]at b;cases b;exact .inl (.inl (.inl (.inl (.inr (zd9 m1 r)))))
  ·rw[l]at b;cases b;exact .inl (.inl (.inl (.inr (zd9 (zyj f g) r))))
  ·obtain⟨a,A,B⟩:=C i _ (by simpa using l) k g;rcases b with b|b
   ·obtain⟨c,u,q⟩:=C j _ (by simpa using f) k b;have:a=c:=by rw[B]at q;cases q;rfl
    subst this;exact .inl (.inl (.inr (zd9 A u)))
   ·obtain⟨c,u,q⟩:=z j k b;have:a=c:=by rw[B]at q;cases q;rfl
    subst this;exact .inl (.inr (zd9 A u))
  ·obtain⟨a,A,B⟩:=C j _ (by simpa using f) k g;obtain⟨c,u,q⟩:=z i k b;have:a=c:=by rw[B]at q;cases q;rfl
   subst this;exact .inr (zd9 A u)
 ·have:=z1c M j o (by simpa using Q) e he hb;omega
 ·rw[k3];simp
 ·rw[k4];simp
end
structure MS where
 it:Nat
 ver:Nat
 mid:Nat
 mver:Nat
 kt:Ty
 lt:TypeId
 t:Ty
 es:List (kt.D×List t.D×Unit)
 kv:Nat
 mask:List Bool
def z8d(x:Operand)(E:EF)(G:EG):Option MS:=match evE E x with
 |.own f e=>match Nat.beq (G f).ver e with
  |true=>match (G f).b with
   |some (.iter c a d none)=>match Nat.beq (G c).ver a with
    |true=>match (G c).b with
     |some (.mrows g lt t h kv none)=>match plT g with
      |true=>some ⟨f,e,c,a,g,lt,t,h,kv,d⟩
      |false=>none
     |_=>none
    |false=>none
   |_=>none
  |false=>none
 |_=>none
def eqD:(t:Ty)->t.D->t.D->Bool
 |.int _,a,b=>decide (a=b)
 |.bool,a,b=>a == b
 |.str,a,b=>a == b
 |.nil,_,_=>true
 |.cons a r,x,y=>eqD a x.1 y.1 && eqD r x.2 y.2
 |.st r,x,y=>eqD r x y
 |_,_,_=>true
theorem zop:∀(t:Ty)(x:t.D),eqD t x x=true
 |.int _,a=>by simp[eqD]
 |.bool,a=>by simp[eqD]
 |.str,a=>by simp[eqD]
 |.nil,_=>rfl
 |.cons a r,x=>by simp[eqD,zop a,zop r]
 |.st r,x=>by simp only[eqD];exact zop r x
 |.sl _,_=>rfl
 |.ref _,_=>rfl
 |.arr _ _,_=>rfl
 |.tup _,_=>rfl
def z2r{α:Type}(f:α->α->Bool):List α->Bool
 |[]=>true
 |x::l=>l.all (λy=>!f x y) && z2r f l
theorem z8h{α:Type}{f:α->α->Bool}(g:∀x,f x x=true):∀{l:List α},z2r f l=true->∀(i j:Nat)(a b:α),i≠j->l[i]?=some a->l[j]?=some b->a≠b
 |[],_,i,j,a,b,_,h,_=>by simp at h
 |x::l,h,i,j,a,b,k,c,d=>by
  simp only[z2r,wcl,wdx,weg]at h;intro e;subst e;cases i with
  |zero=>
   cases j with
   |zero=>exact k rfl
   |succ j=>
    simp at c d;subst c;have:=h.1 _ (wck d);rw[g]at this;cases this
  |succ i=>
   cases j with
   |zero=>
    simp at c d;subst d;have:=h.1 _ (wck c);rw[g]at this;cases this
   |succ j=>exact z8h g h.2 i j a a (by omega) (by simpa using c) (by simpa using d) rfl
def zsi(m:MS):Bool:=Nat.beq m.mask.length m.es.length && (m.mask.all (λb=>!b) && z2r (eqD m.kt) (m.es.map λe=>e.1))
def zpz{α:Type}(l:List α)(j:Nat):Option α:=l[j]?
section
variable{σ β:Type}
def zz5(B:Nat->σ->Option σ)(fin:σ->Option β):Nat->Nat->σ->Option β
 |0,_,t=>fin t
 |m+1,j,t=>ja (B j t) (zz5 B fin m (j+1))
def znf(a:σ->Option MS)(B:Nat->σ->Option σ)(fin:σ->Option β)(t:σ):Option β:=match a t with
 |none=>none
 |some m=>match zsi m with
  |true=>zz5 B fin m.es.length 0 t
  |false=>none
structure zyh(see:σ->Option MS)(B:Nat->σ->Option σ):Prop where
 keep:∀(j:Nat)(t t':σ)(m:MS),B j t=some t'->see t=some m->see t'=some { m with mask:=m.mask.set j true }
 swap:∀(i j:Nat)(t:σ)(m:MS)(a b:m.kt.D×List m.t.D×Unit),i≠j->see t=some m->m.es[i]?=some a->m.es[j]?=some b->a.1≠b.1->ja (B i t) (B j)=ja (B j t) (B i)
open Classical in
def mrC(a:σ->Option MS)(B:Nat->σ->Option σ)(fin:σ->Option β)(t:σ):Option β:=if zyh a B then znf a B fin t else none
theorem z32{a:σ->Option MS}{B:Nat->σ->Option σ}(h:zyh a B):@mrC σ β a B=znf a B:=by funext fin t;exact if_pos h
theorem ji8{a:σ->Option MS}{B:Nat->σ->Option σ}{fin:σ->Option β}{t:σ}{r:β}(h:mrC a B fin t=some r):∃b,b=B/\zyh a b/\∃m,a t=some m/\zsi m=true/\zz5 b fin m.es.length 0 t=some r:=by
 unfold mrC at h;split at h<;>try (cases h;done)
 rename_i c;unfold znf at h;split at h<;>try (cases h;done)
 rename_i m d;split at h<;>try (cases h;done)
 exact⟨B,rfl,c,m,d,by assumption,h⟩
theorem mrC_at{a:σ->Option MS}{B:Nat->σ->Option σ}{fin:σ->Option β}{t:σ}{m:MS}(b:zyh a B)(hm:a t=some m)(c:zsi m=true):mrC a B fin t=zz5 B fin m.es.length 0 t:=by
 rw[z32 b];unfold znf;rw[hm];simp only[c]
def zbf(B:Nat->σ->Option σ):List Nat->σ->Option σ
 |[],t=>some t
 |j::L,t=>ja (B j t) (zbf B L)
theorem zfp{α γ δ:Type}(o:Option α)(f:α->Option γ)(g:γ->Option δ):ja (ja o f) g=ja o λx=>ja (f x) g:=by cases o<;>rfl
theorem zqe{B:Nat->σ->Option σ}{fin:σ->Option β}:∀(m j:Nat)(t:σ),zz5 B fin m j t=ja (zbf B (List.range' j m) t) fin
 |0,j,t=>rfl
 |m+1,j,t=>by
  rw[List.range'_succ];simp only[zz5,zbf,zfp];congr 1;funext s;exact zqe m (j+1) s
theorem zhy{B:Nat->σ->Option σ}:∀(L M:List Nat)(t:σ),zbf B (L++M) t=ja (zbf B L t) (zbf B M)
 |[],M,t=>rfl
 |j::L,M,t=>by
  simp only[we4,zbf,zfp];congr 1;funext s;exact zhy L M s
def zk7(L:List Nat)(k:List Bool):List Bool:=L.foldl (λk j=>k.set j true) k
theorem z0q:∀(L:List Nat)(k:List Bool),(zk7 L k).length=k.length
 |[],k=>rfl
 |j::L,k=>by
  show(zk7 L (k.set j true)).length=_;rw[z0q L];simp
theorem zqw:∀(L:List Nat)(k:List Bool)(i:Nat),i<k.length->(zk7 L k)[i]?=if i∈L then some true else k[i]?
 |[],k,i,_=>by simp[zk7]
 |j::L,k,i,h=>by
  show(zk7 L (k.set j true))[i]?=_;rw[zqw L _ i (by simpa using h),wc8];by_cases a:i∈L
  ·simp[a]
  ·by_cases b:j=i
   ·subst b;simp[a,h]
   ·simp[a,b,Ne.symm b]
theorem z03{a:σ->Option MS}{B:Nat->σ->Option σ}(d:zyh a B):∀(L:List Nat)(t b:σ)(m:MS),zbf B L t=some b->a t=some m->a b=some { m with mask:=zk7 L m.mask }
 |[],t,b,m,h,c=>by cases h;exact c
 |j::L,t,b,m,h,c=>by
  obtain⟨s,e,f⟩:=yb h;exact z03 d L s b _ f (d.keep j t s m e c)
theorem zvx{n:σ->Option MS}{B:Nat->σ->Option σ}(w:zyh n B){m:MS}(C:∀(i j:Nat)a b,i≠j->m.es[i]?=some a->m.es[j]?=some b->a.1≠b.1){o u:List Nat}(D:o.Perm u):o.Nodup->(∀j∈o,j<m.es.length)->∀(t:σ)(k:List Bool),n t=some { m with mask:=k }->zbf B o t=zbf B u t:=by
 induction D with
 |nil=>intro _ _ _ _ _;rfl
 |cons x _ E=>
  intro f c t k d;simp only[zbf];cases h:B x t with
  |none=>rfl
  |some s=>exact E (wfl.1 f).2 (λj p=>c j (by simp[p])) s _ (w.keep x t s { m with mask:=k } h d)
 |swap x y l=>
  intro f c t k d;have g:y≠x:=λe=>by subst e;simp at f
  have A:=c y (by simp);have z:=c x (by simp);simp only[zbf];rw[<- zfp,<- zfp,w.swap y x t { m with mask:=k } _ _ g d (wcf A) (wcf z) (C _ _ _ _ g (wcf A) (wcf z))]
 |trans v F q r=>
  intro f c t k d;rw[q f c t k d,r (v.nodup_iff.1 f) (λj p=>c j (v.mem_iff.2 p)) t k d]
theorem z52{c:σ->Option MS}{B:Nat->σ->Option σ}(n:zyh c B){m:MS}(o:∀(i j:Nat)a b,i≠j->m.es[i]?=some a->m.es[j]?=some b->a.1≠b.1){L:List Nat}(r:L.Nodup)(q:∀j∈L,j<m.es.length){t tn:σ}(hm:c t=some m)(h:zbf B (List.range' 0 m.es.length) t=some tn):∃s,zbf B L t=some s:=by
 have d:(L++(List.range m.es.length).filter λi=>!L.contains i).Perm (List.range' 0 m.es.length):=by
  rw[<- wfi];refine(List.perm_ext_iff_of_nodup ?_ List.nodup_range).2 λi=>?_
  ·rw[wfu];refine⟨r,List.nodup_range.sublist List.filter_sublist,λa l b f e=>?_⟩;subst e;simp at f;exact f.2 l
  ·simp only[wco,wey,wef,weg];constructor
   ·rintro(h|h)
    ·exact q i h
    ·exact h.1
   ·intro h;by_cases g:i∈L
    ·exact .inl g
    ·exact .inr ⟨h,by simpa using g⟩
 have:=zvx n o d (d.nodup_iff.2 (by rw[<- wfi];exact List.nodup_range)) (λj p=>by have:=d.mem_iff.1 p;rw[<- wfi]at this;exact wef.1 this) t m.mask hm;rw[h,zhy]at this;obtain⟨s,k,_⟩:=yb this;exact⟨s,k⟩
theorem jgl{c:σ->Option MS}{B:Nat->σ->Option σ}(f:zyh c B){m:MS}(g:∀(i j:Nat)a b,i≠j->m.es[i]?=some a->m.es[j]?=some b->a.1≠b.1){L:List Nat}(e:L.Nodup)(d:∀j,j∈L↔j<m.es.length){t tn s:σ}(hm:c t=some m)(h:zbf B (List.range' 0 m.es.length) t=some tn)(n:zbf B L t=some s):s=tn:=by
 have l:L.Perm (List.range' 0 m.es.length):=by
  rw[<- wfi];exact(List.perm_ext_iff_of_nodup e List.nodup_range).2 λi=>by rw[d,wef]
 have:=zvx f g l e (λj k=>(d j).1 k) t m.mask hm;rw[h,n]at this;exact wdz this
end
def mrV(m:MS)(j:Nat)(e:m.kt.D×List m.t.D×Unit):TS :=.tup [.c (.bool true),.v ⟨m.kt,e.1⟩,.kid m.mid (j:Int) (m.mver+m.kv)]
def mrG(m:MS)(G:EG)(j:Nat):EG:=G.set m.it ⟨m.ver,some (.iter m.mid m.mver (m.mask.set j true) (some j))⟩
def jcy(n:Nat)(o:Oper):Option Operand:=match o.op with
 |.next x false=>match o.guard with
  |none=>match jer n o with
   |true=>some x
   |false=>none
  |_=>none
 |_=>none
theorem z9j{n:Nat}{o:Oper}{x:Operand}(h:jcy n o=some x):o.op=.next x false/\o.guard=none/\Y4 n o:=by
 unfold jcy at h;split at h<;>try (cases h;done)
 rename_i d c;split at h<;>try (cases h;done)
 rename_i b;split at h<;>cases h;rename_i a;exact⟨c,b,z3m a⟩
theorem jbu{x:Operand}{E:EF}{G:EG}{m:MS}(h:z8d x E G=some m):evE E x=.own m.it m.ver/\G m.it=⟨m.ver,some (.iter m.mid m.mver m.mask none)⟩/\G m.mid=⟨m.mver,some (.mrows m.kt m.lt m.t m.es m.kv none)⟩/\plT m.kt=true:=by
 unfold z8d at h;split at h<;>try (cases h;done)
 rename_i i g f;split at h<;>try (cases h;done)
 rename_i e;split at h<;>try (cases h;done)
 rename_i c;split at h<;>try (cases h;done)
 rename_i b;split at h<;>try (cases h;done)
 rename_i a;split at h<;>cases h;rename_i d;refine⟨f,?_,?_,d⟩
 ·rw[<- c,<- wcj e]
 ·rw[<- a,<- wcj b]
theorem z0n{H:PHeap}{id:Nat}{x:GB}(a:x.flat=true)(h:∀j,H (.c id j)=⟨x.ver,none⟩):H.set (.o id) (v6 id x)=zl1 H id x:=by
 funext k;unfold PHeap.set zl1;cases k with
 |o i=>by_cases e:i=id<;>simp[Nm.rt,Qe,e]
 |r _=>simp[Nm.rt]
 |c i j=>
  by_cases e:i=id
  ·subst e;simp[Nm.rt,Qe,zpe a,h]
  ·simp[Nm.rt,e]
section
variable{P:Program}{W:Env}{n:Nat}{R:PHeap}
theorem jok{ops:Array Oper}{o:Oper}{l:List Oper}{E:EF}{G:EG}{x:Operand}{m:MS}{K:PFrame->PHeap->Prop}(z:jcy n o=some x)(C:z8d x E G=some m)(A:m.mask.length=m.es.length)
  (h0:(∀i,i<m.es.length->m.mask[i]?=some true)->PL P W n ops l (zh (E.put o.dst (.tup [.c (.bool false)]))) (qn G R) K)
  (t:∀j e,m.es[j]?=some e->m.mask[j]?=some false->PL P W n ops l (zh (E.put o.dst (mrV m j e))) (qn (mrG m G j) R) K):PL P W n ops (o::l) (zh E) (qn G R) K:=by
 obtain⟨B,y,w⟩:=z9j z;obtain⟨D,q,F,H⟩:=jbu C;have v:qn G R (.o m.mid)=⟨m.mver,some (Qq (m.es.map λe=>oV m.kt e.1) (List.range m.es.length) m.es.length ((List.range m.es.length).map (Hole.cell m.mid (m.mver+m.kv) none)))⟩:=by
  show v6 m.mid (G m.mid)=_;rw[F];rfl
 have b:qn G R (.o m.it)=⟨m.ver,some (itB (.o m.mid) m.mver m.mask none)⟩:=by
  show v6 m.it (G m.it)=_;rw[q];rfl
 refine PL.cons (by unfold V3;rw[y]) (wb9 B w v b A (by rw[zuv,D];simp only[TS.den]) (λa=>?_) λj c k h f p d=>?_)
 ·have:=h0 a;rw[zjf]at this;exact this
 ·have g:m.es[j]?=some m.es[j]:=wcf h;have:=t j _ g d;rw[zjf]at this;rw[wcp,g]at p;rw[wcp,List.getElem?_range h]at f;cases p;cases f;have r:(mrV m j m.es[j]).den=.tup [.u (.bool true),ofV (oV m.kt m.es[j].1),Hole.cell m.mid (m.mver+m.kv) none j]:=by
   simp only[mrV,TS.den,yo,zx5 _ _ H];rfl
  have s:qn (mrG m G j) R=(qn G R).set (.o m.it) ⟨m.ver,some (itB (.o m.mid) m.mver (m.mask.set j true) (some j))⟩:=by
   unfold mrG;rw[z79,<- z0n rfl λi=>?_]
   ·rfl
   ·show zac (G m.it) i=_;rw[q];rfl
  rw[r,s]at this;exact this
end
inductive HK where
 |meet (h:LH)
 |unroll (m:Nat)
 |mr (h:LH)
abbrev EK(β:Type):=Exit->Nat->EF->EG->Option β
def jar{β:Type}(B:Nat->Nat->EF->EG->EK β->Option β)(k:EK β):Nat->Nat->Nat->EF->EG->Option β
 |0,_,_,_,_=>none
 |m+1,p,d,E,G=>B (2*p) d E G λe a b c=>match e with
  |.normal=>jar B k m (2*p+1) a b c
  |e=>k e a b c
section
variable(sy:SyT)(fuel:Nat)(hint:Nat → Option HK)(ctx b n:Nat)
def z7z{β:Type}(id:Nat)(ops:Array Oper)(a:Bool)(nx:Nat)(E:EF)(G:EG)(k:EF->EG->Option β):Option β:=match a with
 |false=>zab sy ctx n ops id nx ops.toList 0 E G [] λb c _=>k b c
 |true=>zab sy ctx n ops id nx ops.toList 0 E G [] λb c d=>match jaq ops d with
  |true=>k b c
  |false=>none
def q7:Code->Nat->Nat->{β:Type}->EF->EG->EK β->Option β
 |.skip,_,d,_,E,G,k=>k .normal d E G
 |.ret,_,d,_,E,G,k=>k .ret d E G
 |.exit id,_,d,_,E,G,k=>k (.exit id) d E G
 |.seq x y,p,d,_,E,G,k=>match hint p with
  |some (.meet h)=>J (λt=>q7 y (2*p+1) h.nx (unE h (zu h.tys t)) (unG h (zu h.tys t)) k) λj=>q7 x (2*p) d E G λe a f g=>match e with
   |.normal=>meet b h j f g
   |e=>k e a f g
  |_=>q7 x (2*p) d E G λe a f g=>match e with
   |.normal=>q7 y (2*p+1) a f g k
   |e=>k e a f g
 |.cond c x y,p,d,_,E,G,k=>match evE E c with
  |.c (.bool true)=>q7 x (2*p) d E G k
  |.c (.bool false)=>q7 y (2*p+1) d E G k
  |.v ⟨.bool,c⟩=>ifB c (q7 x (2*p) d E G k) (q7 y (2*p+1) d E G k)
  |_=>none
 |.block id c,p,d,_,E,G,k=>match hint p with
  |some (.meet h)=>J (λt=>k .normal h.nx (unE h (zu h.tys t)) (unG h (zu h.tys t))) λj=>q7 c (2*p) d E G λe a f g=>match e with
   |.exit q=>if q=id then meet b h j f g else k (.exit q) a f g
   |.normal=>meet b h j f g
   |e=>k e a f g
  |_=>q7 c (2*p) d E G λe a f g=>match e with
   |.exit q=>if q=id then k .normal a f g else k (.exit q) a f g
   |e=>k e a f g
 |.loop c,p,d,_,E,G,k=>match hint p with
  |none=>none
  |some (.unroll m)=>jar (λp d E G k=>q7 c p d E G k) k m p d E G
  |some (.meet h)=>meet b h (λt=>jn (λt next=>q7 c (2*p) h.nx (unE h (zu h.tys t)) (unG h (zu h.tys t)) λe a f g=>match e with
   |.normal=>meet b h next f g
   |e=>k e a f g) fuel t) E G
  |some (.mr h)=>match c with
   |.seq (.region id i false) y=>match i.toList with
    |[]=>none
    |o::l=>match jcy n o with
     |none=>none
     |some x=>meet b h (mrC (λt=>z8d x (unE h (zu h.tys t)) (unG h (zu h.tys t)))
      (λj t=>match z8d x (unE h (zu h.tys t)) (unG h (zu h.tys t))with
       |none=>none
       |some m=>ja (zpz m.es j) λe=>zab sy ctx n i id h.nx l 1 ((unE h (zu h.tys t)).put o.dst (mrV m j e)) (mrG m (unG h (zu h.tys t)) j) [] λf g _=>q7 y (2*(2*p)+1) (h.nx+NB*(l.length+1)) f g λe _ s u=>match e with
        |.normal=>jas b h s u
        |_=>none)
      λt=>zab sy ctx n i id h.nx l 1 ((unE h (zu h.tys t)).put o.dst (.tup [.c (.bool false)])) (unG h (zu h.tys t)) [] λf g _=>q7 y (2*(2*p)+1) (h.nx+NB*(l.length+1)) f g λe a s u=>match e with
       |.normal=>none
       |e=>k e a s u) E G
   |_=>none
 |.region id i r,p,d,_,E,G,k=>match hint p with
  |some (.meet h)=>J (λt=>k .normal h.nx (unE h (zu h.tys t)) (unG h (zu h.tys t))) λj=>z7z sy ctx n id i r d E G λf g=>meet b h j f g
  |_=>z7z sy ctx n id i r d E G λf g=>k .normal (d+NB*i.toList.length) f g
 |.scope c,p,d,_,E,G,k=>q7 c (2*p) d E G λe a f g=>match e with
  |.goto _=>none
  |e=>k e a f g
 |.label _,_,d,_,E,G,k=>k .normal d E G
 |_,_,_,_,_,_,_=>none
end
def OutC(P:Program)(b n:Nat)(c:Code)(E:EF)(G:EG)(e:Exit)(a:EF)(G':EG):Prop:=
 ∀(W:Env)(R:PHeap),GhOk b W->RestOk b R->PC P W n c (zh E) (qn G R) λg d f=>g=e/\d=zh a/\f=qn G' R
def Ren(P:Program)(b n:Nat)(E:EF)(G:EG)(c:EF)(G':EG):Prop:=
 ∀(W:Env)(R:PHeap),GhOk b W->RestOk b R->∀V a w,Rel P W n (zh E) (qn G R) V a w->∃d,Rel P W n (zh c) (qn G' R) d a w
theorem Ren.refl{P:Program}{b n:Nat}{E:EF}{G:EG}:Ren P b n E G E G:=λW R _ _ V a w h=>⟨V,h⟩
inductive LP(P:Program)(b n:Nat)(c:Code)(e:Exit)(E':EF)(G':EG):Nat->EF->EG->Prop
 |last {E:EF}{G:EG}(he:e ≠ .normal) (h:OutC P b n c E G e E' G'):LP P b n c e E' G' 0 E G
 |round {m:Nat}{E E1 E2:EF}{G G1 G2:EG}(h:OutC P b n c E G .normal E1 G1) (hr:Ren P b n E1 G1 E2 G2) (hs:LP P b n c e E' G' m E2 G2):LP P b n c e E' G' (m+1) E G
section
variable{P:Program}{W:Env}{n b ctx:Nat}{R:PHeap}{sy:SyT}{fuel:Nat}{hint:Nat → Option HK}{β:Type}
theorem wcb{c:Code}{F:PFrame}{H:PHeap}{Q Q':Exit->PFrame->PHeap->Prop}(h:PC P W n c F H Q)(s:∀e F H,Q e F H->∀V a w,Rel P W n F H V a w->∃b d f,Q' e b d/\Rel P W n b d f a w):PC P W n c F H Q':=λV a w m t q=>h V a w m t λe b d f i j r g=>by
 obtain⟨k,l,V2,o,p⟩:=s e b d r f i j g;exact q e k l V2 i j o p
theorem Vs{h:LH}{j:DL h.tys->Option β}{E:EF}{G:EG}{r:β}(hm:meet b h j E G=some r):∃t,jas b h E G=some t/\j t=some r/\∀{γ:Type}(c:DL h.tys->Option γ),meet b h c E G=c t:=by
 unfold meet at hm;cases a:jas b h E G with
 |none=>rw[a]at hm;cases hm
 |some t=>rw[a]at hm;exact⟨t,rfl,hm,λc=>by unfold meet;rw[a]⟩
theorem za9{h:LH}{E:EF}{G:EG}{t:DL h.tys}(c:jas b h E G=some t):Ren P b n E G (unE h (zu h.tys t)) (unG h (zu h.tys t)):=λW R e d V a w g=>by
 unfold jas at c;split at c
 ·rename_i r f;rw[jc5 c];exact jj1 f e d g
 ·cases c
theorem OutC.ren{c:Code}{E E1 f:EF}{G G1 g:EG}{e:Exit}(h:OutC P b n c E G e E1 G1)(q:Ren P b n E1 G1 f g):OutC P b n c E G e f g:=λW R j i=>
 wcb (h W R j i) λt r s⟨l,m,o⟩ V a w d=>by
  subst l;subst m;subst o;obtain⟨k,p⟩:=q W R j i V a w d;exact⟨_,_,k,⟨rfl,rfl,rfl⟩,p⟩
theorem OutC.into{c:Code}{E f E1:EF}{G g G1:EG}{e:Exit}(p:Ren P b n f g E G)(h:OutC P b n c E G e E1 G1):OutC P b n c f g e E1 G1:=λW R j i V a w k d o=>by
 obtain⟨l,m⟩:=p W R j i V a w d;exact h W R j i l a w k m o
theorem OutC.seq{x y:Code}{E E1 a:EF}{G G1 c:EG}{e:Exit}(j:OutC P b n x E G .normal E1 G1)(k:OutC P b n y E1 G1 e a c):OutC P b n (.seq x y) E G e a c:=λW R f d=>
 PC.seq λK l=>PC.mono (j W R f d) λm F H⟨g,h,i⟩=>by
  subst g;subst h;subst i;exact l _ _ (k W R f d)
theorem OutC.seqX{x y:Code}{E E1:EF}{G G1:EG}{e:Exit}(g:OutC P b n x E G e E1 G1)(i:e ≠ .normal):OutC P b n (.seq x y) E G e E1 G1:=λW R j h=>
 PC.seq λK k=>PC.mono (g W R j h) λf F H⟨a,c,d⟩=>by
  subst a;subst c;subst d;cases f with
  |normal=>exact absurd rfl i
  |_=>exact⟨rfl,rfl,rfl⟩
theorem OutC.block{id:Nat}{c:Code}{E E1:EF}{G G1:EG}{e:Exit}(h:OutC P b n c E G e E1 G1):OutC P b n (.block id c) E G (match e with
  |.exit a=>if a=id then .normal else .exit a
  |e=>e) E1 G1:=λW R k j=>PC.block (PC.mono (h W R k j) λi F H⟨d,f,g⟩=>by
 subst d;subst f;subst g;cases i with
 |exit a=>
  simp only[zx3];by_cases e:a=id
  ·rw[if_pos e,if_pos e];simp
  ·rw[if_neg e,if_neg e];simp
 |_=>exact⟨rfl,rfl,rfl⟩)
theorem OutC.loop{c:Code}{E a:EF}{G G':EG}{e:Exit}{m:Nat}(h:LP P b n c e a G' m E G):OutC P b n (.loop c) E G e a G':=λW R k j=>by
 refine PC.loop (λm F H=>∃E G,F=zh E/\H=qn G R/\LP P b n c e a G' m E G) (m:=m) ⟨E,G,rfl,rfl,h⟩ λm F H⟨E,G,p,q,r⟩=>?_;subst p;subst q;cases r with
 |last s h=>
  refine PC.mono (h W R k j) λi l o⟨d,f,g⟩=>?_;subst d;subst f;subst g;cases i with
  |normal=>exact absurd rfl s
  |_=>exact⟨rfl,rfl,rfl⟩
 |round h t u=>
  refine PC.mono (h.ren t W R k j) λi l o⟨d,f,g⟩=>?_;subst d;subst f;subst g;exact⟨_,wfd _,_,_,rfl,rfl,u⟩
theorem OutC.cond{q:Operand}{x y:Code}{E E1:EF}{G G1:EG}{e:Exit}{t:Bool}(d:evP (zh E) q=.u (.bool t)) (h:OutC P b n (match t with
  |true=>x
  |false=>y) E G e E1 G1):OutC P b n (.cond q x y) E G e E1 G1:=λW R c a=>
 PC.cond d (λe=>by subst e;exact h W R c a) (λe=>by subst e;exact h W R c a)
theorem OutC.scope{c:Code}{E E1:EF}{G G1:EG}{e:Exit}(h:OutC P b n c E G e E1 G1)(j:∀l,e ≠ .goto l):OutC P b n (.scope c) E G e E1 G1:=λW R k i=>
 PC.scope (PC.mono (h W R k i) λg F H⟨a,d,f⟩=>by
  subst a;subst d;subst f;cases g<;>first|exact⟨rfl,rfl,rfl⟩|exact absurd rfl (j _))
theorem GhOk.fl(h:GhOk b W):∀i,Fl (W.G i):=λi=>(h i).fl
theorem RestOk.fl(h:RestOk b R):RFl R:=λi a d c e=>(h i a d c e).fl
theorem jct(g:zw3 P sy)(hm:P.follows .mixedOrders=true){id:Nat}{ops:Array Oper}{a:Bool}{nx:Nat}{E:EF}{G:EG}{k:EF->EG->Option β}{r:β}(h:z7z sy ctx n id ops a nx E G k=some r):
  ∃c d,k c d=some r/\(∀{γ:Type}(j:EF->EG->Option γ),z7z sy ctx n id ops a nx E G j=j c d)/\OutC P b n (.region id ops a) E G .normal c d:=by
 cases a with
 |false=>
  simp only[z7z]at h;obtain⟨cs,q,c,d,p,e,i⟩:=zey g _ _ _ _ _ h;refine⟨c,d,e,λj=>by simp only[z7z];exact i _,λW R o m=>?_⟩;obtain⟨l⟩:=ops;exact PC.region (Steps.seq (GhOk.fl o) (RestOk.fl m) p ⟨rfl,rfl,rfl⟩)
 |true=>
  simp only[z7z]at h;obtain⟨cs,q,c,d,p,e,i⟩:=zey g _ _ _ _ _ h;simp only[wei]at e i;split at e<;>try (cases e;done)
  rename_i f;exact⟨c,d,e,λj=>by simp only[z7z];rw[i];simp only[f],λW R o m=>Steps.drawn (GhOk.fl o) (RestOk.fl m) hm p f⟩
def Ends(P:Program)(sy:SyT)(fuel:Nat)(hint:Nat->Option HK)(ctx b n:Nat){β:Type}(c:Code)(p nx:Nat)(E:EF)(G:EG)(k:EK β)(r:β):Prop:=
 ∃e a d f,k e a d f=some r/\(∀{γ:Type}(g:EK γ),q7 sy fuel hint ctx b n c p nx E G g=g e a d f)/\OutC P b n c E G e d f
theorem y5(hm:P.follows .mixedOrders=true)(w:zw3 P sy):∀(c:Code)(p nx:Nat){β:Type}(E:EF)(G:EG)(k:EK β)(r:β),q7 sy fuel hint ctx b n c p nx E G k=some r->Ends P sy fuel hint ctx b n c p nx E G k r
 |.skip,p,nx,β,E,G,k,r,h=>⟨.normal,nx,E,G,by simpa only [q7]using h,λf=>by simp only[q7],λW R _ _=>PC.skip ⟨rfl,rfl,rfl⟩⟩
 |.ret,p,nx,β,E,G,k,r,h=>⟨.ret,nx,E,G,by simpa only [q7]using h,λf=>by simp only[q7],λW R _ _=>PC.ret ⟨rfl,rfl,rfl⟩⟩
 |.exit id,p,nx,β,E,G,k,r,h=>⟨.exit id,nx,E,G,by simpa only [q7]using h,λf=>by simp only[q7],λW R _ _=>PC.exit ⟨rfl,rfl,rfl⟩⟩
 |.label l,p,nx,β,E,G,k,r,h=>⟨.normal,nx,E,G,by simpa only [q7]using h,λf=>by simp only[q7],λW R _ _=>PC.label ⟨rfl,rfl,rfl⟩⟩
 |.scope c,p,nx,β,E,G,k,r,h=>by
  simp only[q7]at h;obtain⟨e,d,s,v,g,z,A⟩:=y5 hm w c (2*p) nx E G _ r h;have he:∀l,e ≠ .goto l:=λl e1=>by subst e1;cases g
  refine⟨e,d,s,v,?_,λf=>?_,A.scope he⟩
  ·cases e<;>first|exact g|exact absurd rfl (he _)
  ·simp only[q7];rw[z];cases e<;>first|rfl|exact absurd rfl (he _)
 |.seq x y,p,nx,β,E,G,k,r,h=>by
  simp only[q7]at h;split at h
  ·rename_i C D;unfold J at h;obtain⟨e,d,s,v,g,z,A⟩:=y5 hm w x (2*p) nx E G _ r h;cases e with
   |normal=>
    obtain⟨t,X,Y,Z⟩:=Vs g;obtain⟨e2,Q,E2,G2,M,O,b7⟩:=y5 hm w y _ _ _ _ k r Y;exact⟨e2,Q,E2,G2,M,λf=>by simp only[q7,D,J];rw[z];simp only;rw[Z];exact O f,(A.ren (za9 X)).seq b7⟩
   |_=>exact⟨_,d,s,v,g,λf=>by simp only[q7,D,J];rw[z],A.seqX (λe=>by cases e)⟩
  ·rename_i D;obtain⟨e,d,s,v,g,z,A⟩:=y5 hm w x (2*p) nx E G _ r h;cases e with
   |normal=>
    obtain⟨e2,Q,E2,G2,M,O,b7⟩:=y5 hm w y _ d s v k r g;refine⟨e2,Q,E2,G2,M,λf=>?_,A.seq b7⟩;rw[q7];split
    ·rename_i C N;exact absurd N (D C)
    ·rw[z];exact O f
   |_=>
    refine⟨_,d,s,v,g,λf=>?_,A.seqX (λe=>by cases e)⟩;rw[q7];split
    ·rename_i C N;exact absurd N (D C)
    ·rw[z]
 |.cond c x y,p,nx,β,E,G,k,r,h=>by
  simp only[q7]at h;split at h
  ·rename_i S;obtain⟨e,d,s,v,g,z,A⟩:=y5 hm w x (2*p) nx E G k r h;exact⟨e,d,s,v,g,λf=>by simp only[q7,S];exact z f,OutC.cond (t:=true) (by rw[zuv,S];simp only[TS.den];rfl) A⟩
  ·rename_i S;obtain⟨e,d,s,v,g,z,A⟩:=y5 hm w y (2*p+1) nx E G k r h;exact⟨e,d,s,v,g,λf=>by simp only[q7,S];exact z f,OutC.cond (t:=false) (by rw[zuv,S];simp only[TS.den];rfl) A⟩
  ·rename_i q S;have e1:evP (zh E) c=.u (.bool q):=by rw[zuv,S];simp only[TS.den];rfl
   unfold ifB at h;split at h
   ·obtain⟨e,d,s,v,g,z,A⟩:=y5 hm w x (2*p) nx E G k r h;exact⟨e,d,s,v,g,λf=>by simp only[q7,S,ifB];exact z f,OutC.cond e1 A⟩
   ·obtain⟨e,d,s,v,g,z,A⟩:=y5 hm w y (2*p+1) nx E G k r h;exact⟨e,d,s,v,g,λf=>by simp only[q7,S,ifB];exact z f,OutC.cond e1 A⟩
  ·cases h
 |.block id c,p,nx,β,E,G,k,r,h=>by
  simp only[q7]at h;split at h
  ·rename_i C D;unfold J at h;obtain⟨e,d,s,v,g,z,A⟩:=y5 hm w c (2*p) nx E G _ r h;cases e with
   |exit V=>
    simp only at g z;by_cases e:V=id
    ·rw[if_pos e]at g;obtain⟨t,X,Y,Z⟩:=Vs g;refine⟨_,_,_,_,Y,λf=>by simp only[q7,D,J];rw[z];simp only;rw[if_pos e];exact Z _,?_⟩;have:=(A.ren (za9 X)).block (id:=id);simp only[if_pos e]at this;exact this
    ·rw[if_neg e]at g;refine⟨_,_,_,_,g,λf=>by simp only[q7,D,J];rw[z];simp only;rw[if_neg e],?_⟩;have:=A.block (id:=id);simp only[if_neg e]at this;exact this
   |normal=>
    obtain⟨t,X,Y,Z⟩:=Vs g;exact⟨_,_,_,_,Y,λf=>by simp only[q7,D,J];rw[z];exact Z _,(A.ren (za9 X)).block⟩
   |_=>exact⟨_,_,_,_,g,λf=>by simp only[q7,D,J];rw[z],A.block⟩
  ·rename_i D;obtain⟨e,d,s,v,g,z,A⟩:=y5 hm w c (2*p) nx E G _ r h;have un:∀{γ:Type}(f:EK γ),q7 sy fuel hint ctx b n (.block id c) p nx E G f=match e with
    |.exit V=>if V=id then f .normal d s v else f (.exit V) d s v
    |e=>f e d s v:=λ{γ}f=>by
    rw[q7];split
    ·rename_i C N;exact absurd N (D C)
    ·rw[z];cases e<;>rfl
   cases e with
   |exit V=>
    simp only at g un;by_cases e:V=id
    ·rw[if_pos e]at g;refine⟨_,_,_,_,g,λf=>by rw[un,if_pos e],?_⟩;have:=A.block (id:=id);simp only[if_pos e]at this;exact this
    ·rw[if_neg e]at g;refine⟨_,_,_,_,g,λf=>by rw[un,if_neg e],?_⟩;have:=A.block (id:=id);simp only[if_neg e]at this;exact this
   |_=>exact⟨_,_,_,_,g,λf=>un f,A.block⟩
 |.loop c,p,nx,β,E,G,k,r,h=>by
  simp only[q7]at h;split at h
  ·cases h
  ·rename_i m D;have c1:∀(m p nx:Nat)(E:EF)(G:EG),jar (λp nx E G k=>q7 sy fuel hint ctx b n c p nx E G k) k m p nx E G=some r->∃e d s v j,k e d s v=some r/\(∀{γ:Type}(f:EK γ),jar (λp nx E G k=>q7 sy fuel hint ctx b n c p nx E G k) f m p nx E G=f e d s v)/\LP P b n c e s v j E G:=by
    intro m;induction m with
    |zero=>intro p nx E G h;cases h
    |succ m ih=>
     intro p nx E G h;simp only[jar]at h;obtain⟨e,d,s,v,g,z,A⟩:=y5 hm w c (2*p) nx E G _ r h;cases e with
     |normal=>
      obtain⟨e2,Q,E2,G2,j,M,O,hl⟩:=ih (2*p+1) d s v g;exact⟨e2,Q,E2,G2,j+1,M,λf=>by simp only[jar];rw[z];exact O f,.round A Ren.refl hl⟩
     |_=>exact⟨_,d,s,v,0,g,λf=>by simp only[jar];rw[z],.last (λe=>by cases e) A⟩
   obtain⟨e,d,s,v,j,g,z,hl⟩:=c1 m p nx E G h;exact⟨e,d,s,v,g,λf=>by simp only[q7,D];exact z f,OutC.loop hl⟩
  ·rename_i C D;obtain⟨t,X,Y,Z⟩:=Vs h;have c1:∀(m:Nat)(t:DL C.tys),jn (λt next=>q7 sy fuel hint ctx b n c (2*p) C.nx (unE C (zu C.tys t)) (unG C (zu C.tys t)) λe d s v=>match e with
     |.normal=>meet b C next s v
     |e=>k e d s v) m t=some r->∃e d s v j,k e d s v=some r/\(∀{γ:Type}(f:EK γ),jn (λt next=>q7 sy fuel hint ctx b n c (2*p) C.nx (unE C (zu C.tys t)) (unG C (zu C.tys t)) λe d s v=>match e with
     |.normal=>meet b C next s v
     |e=>f e d s v) m t=f e d s v)/\LP P b n c e s v j (unE C (zu C.tys t)) (unG C (zu C.tys t)):=by
    intro m;induction m with
    |zero=>intro t h;cases h
    |succ m ih=>
     intro t h;simp only[jn]at h;obtain⟨e,d,s,v,g,z,A⟩:=y5 hm w c (2*p) _ _ _ _ r h;cases e with
     |normal=>
      obtain⟨t',k1,f,k3⟩:=Vs g;obtain⟨e2,Q,E2,G2,j,M,O,hl⟩:=ih t' f;exact⟨e2,Q,E2,G2,j+1,M,λf=>by simp only[jn];rw[z];simp only;rw[k3];exact O f,.round A (za9 k1) hl⟩
     |_=>exact⟨_,d,s,v,0,g,λf=>by simp only[jn];rw[z],.last (λe=>by cases e) A⟩
   obtain⟨e,d,s,v,j,g,z,hl⟩:=c1 fuel t Y;exact⟨e,d,s,v,g,λf=>by simp only[q7,D];rw[Z];exact z f,(OutC.loop hl).into (za9 X)⟩
  ·rename_i C D;split at h<;>try (cases h;done)
   rename_i id c2 y;split at h<;>try (cases h;done)
   rename_i o l T;split at h<;>try (cases h;done)
   rename_i x hx;obtain⟨t0,X,Y,Z⟩:=Vs h;obtain⟨B,hB,S,m,U,b8,b2⟩:=ji8 Y;rw[zqe]at b2;obtain⟨tn,I,c6⟩:=yb b2;simp only[zsi,wcl,wdx,weg]at b8;have d0:zsi m=true:=by simp only[zsi,wcl,wdx,weg];exact b8
   obtain⟨a7,f3,e7⟩:=b8;have a7:=wcj a7;have hd:∀(i j:Nat)a b,i≠j->m.es[i]?=some a->m.es[j]?=some b->a.1≠b.1:=λi j a b f4 ha hb=>z8h (zop _) e7 i j a.1 b.1 f4 (by rw[wcp,ha];rfl) (by rw[wcp,hb];rfl);obtain⟨cs,j4,E1,G1,f7,d1,f8⟩:=zey w _ _ _ _ _ c6;obtain⟨e,d,E2,G2,g,z,A⟩:=y5 hm w y _ _ E1 G1 _ r d1;have he:e ≠ .normal:=λe1=>by subst e1;cases g
   have f2:k e d E2 G2=some r:=by cases e<;>first|exact g|exact absurd rfl he
   refine⟨e,d,E2,G2,f2,λf=>?_,OutC.into (za9 X) λW R hg hR=>?_⟩
   ·rw[q7];split
    ·rename_i h9;rw[D]at h9;cases h9
    ·rename_i h9;rw[D]at h9;cases h9
    ·rename_i h9;rw[D]at h9;cases h9
    ·rename_i j1 h9;rw[D]at h9;cases h9;simp only[T,hx];rw[Z,<- hB,mrC_at S U d0,zqe,I];show zab sy ctx n c2 id C.nx l 1 _ _ [] _=_;rw[f8,z];cases e<;>first|rfl|exact absurd rfl he
   refine PC.loop (λq F H=>∃(L:List Nat)(t:DL C.tys),L.Nodup/\(∀j∈L,j<m.es.length)/\q=m.es.length-L.length/\zbf B L t0=some t/\F=zh (unE C (zu C.tys t))/\H=qn (unG C (zu C.tys t)) R) (m:=m.es.length)
    ⟨[],t0,List.nodup_nil,(λj hj=>by cases hj),by simp,rfl,rfl,rfl⟩ λq F H⟨L,t,hn,hL,hq,hf,hF,hH⟩=>?_
   subst hF;subst hH;have hs:=z03 S L t0 t m hf U;refine PC.seq λK hK=>?_;obtain⟨ol⟩:=c2
   replace T:ol=o::l:=T
   subst T;refine PC.region (jok hx hs (by rw[z0q];exact a7) (λa5=>?_) λj ee c7 c9=>?_)
   ·have a5:∀j,j∈L↔j<m.es.length:=λj=>⟨hL j,λhj=>by
     have h1:=a5 j hj;rw[show({ m with mask:=zk7 L m.mask }:MS).mask=zk7 L m.mask from rfl,zqw _ _ _ (by rw[a7];exact hj)]at h1;by_cases a6:j∈L
     ·exact a6
     ·rw[if_neg a6]at h1;have:=f3 true (wck h1);cases this⟩
    have:=jgl S hd hn a5 U I hf;subst this;refine Steps.seq (GhOk.fl hg) (RestOk.fl hR) f7 (hK _ _ (PC.mono (A W R hg hR) λe2 F' H'⟨a1,a2,a3⟩=>?_));subst a1;subst a2;subst a3;cases e2<;>first|exact⟨rfl,rfl,rfl⟩|exact absurd rfl he
   ·have a6:j<m.es.length:=(wcg.1 c7).1;have f1:j∉L:=λhj=>by
     rw[show({ m with mask:=zk7 L m.mask }:MS).mask=zk7 L m.mask from rfl,zqw _ _ _ (by rw[a7];exact a6),if_pos hj]at c9;cases c9
    have b6:(L++[j]).Nodup:=by
     rw[wfu];exact⟨hn,by simp,λa ha b hb e=>by simp at hb;subst hb;subst e;exact f1 ha⟩
    have b3:∀i∈L++[j],i<m.es.length:=λi hi=>by
     rcases wco.1 hi with h|h
     ·exact hL i h
     ·simp at h;subst h;exact a6
    obtain⟨t2,c5⟩:=z52 S hd b6 b3 U I;have b1:=c5;rw[zhy,hf]at b1
    replace b1:ja (B j t) (zbf B [])=some t2:=b1
    obtain⟨t3,a4,c0⟩:=yb b1
    replace c0:some t3=some t2:=c0
    cases c0;rw[hB]at a4;simp only[hs]at a4;obtain⟨e3,e8,a4⟩:=yb a4;cases c7.symm.trans e8;obtain⟨i4,h4,E3,G3,d2,b9,_⟩:=zey w _ _ _ _ _ a4;obtain⟨e4,j2,E4,G4,c8,_,f5⟩:=y5 hm w y _ _ E3 G3 _ t2 b9;cases e4 with
    |normal=>
     have f6:jas b C E4 G4=some t2:=c8;refine Steps.seq (GhOk.fl hg) (RestOk.fl hR) d2 (hK _ _ (PC.mono ((f5.ren (za9 f6)) W R hg hR) λe2 F' H'⟨a1,a2,a3⟩=>?_));subst a1;subst a2;subst a3;have g9:L.length<m.es.length:=by
      have:=List.Nodup.length_le_of_subset b6 (l₂:=List.range m.es.length) λi hi=>wef.2 (b3 i hi);simp at this;omega
     exact⟨m.es.length-(L++[j]).length,by rw[hq];simp;omega,L++[j],t2,b6,b3,rfl,c5,rfl,rfl⟩
    |_=>cases c8
 |.region id c2 g4,p,nx,β,E,G,k,r,h=>by
  simp only[q7]at h;split at h
  ·rename_i C D;unfold J at h;obtain⟨s,v,g,z,A⟩:=jct (b:=b) w hm h;obtain⟨t,X,Y,Z⟩:=Vs g;exact⟨_,_,_,_,Y,λf=>by simp only[q7,D,J];rw[z];exact Z _,A.ren (za9 X)⟩
  ·rename_i D;obtain⟨s,v,g,z,A⟩:=jct (b:=b) w hm h;refine⟨_,_,_,_,g,λf=>?_,A⟩;rw[q7];split
   ·rename_i C N;exact absurd N (D C)
   ·exact z _
 |.rangeFunc _ _ _ _,p,nx,β,E,G,k,r,h=>by simp only[q7]at h;cases h
 |.goto _,p,nx,β,E,G,k,r,h=>by simp only[q7]at h;cases h
 |.refuse _,p,nx,β,E,G,k,r,h=>by simp only[q7]at h;cases h
end
def SR.now(s:TS)(rd:List Nat):SR:=⟨Unit,true,some (),λ_=>s,λ_=>[],rd,[],[]⟩
def SR.dat(α:Type)(o:Option α)(s:α->TS)(rd:List Nat):SR:=⟨α,false,o,s,λ_=>[],rd,[],[]⟩
def SR.vx(b:Bool)(t:Ty)(x:t.D):SR:=match b with
 |true => .dat t.D (some x) (λy=> .v ⟨t,y⟩) []
 |false => .now (.v ⟨t,x⟩) []
def SR.vo(t:Ty)(o:Option t.D):SR :=.dat t.D o (λy=> .v ⟨t,y⟩) []
structure Agr(o:Oper)(E:EF)(G:EG)(rd:List Nat)(F:PFrame)(H:PHeap):Prop where
 f:∀t,Operand.tmp t∈o.op.operands->F t=(E t).den
 hn:∀id,id∈rd->AgN H G id
theorem Agr.h{o:Oper}{E:EF}{G:EG}{rd:List Nat}{F:PFrame}{H:PHeap}(h:Agr o E G rd F H):∀id,id∈rd->H (.o id)=v6 id (G id):=λid a=>(h.hn id a).1
section
variable{P:Program}{o:Oper}{E:EF}{G:EG}{rd:List Nat}{F:PFrame}{H:PHeap}{W:Env}
theorem Agr.ev(h:Agr o E G rd F H){x:Operand}(a:x∈o.op.operands):evP F x=(evE E x).den:=by
 cases x with
 |tmp t=>simp only[evP,evE];exact h.f t a
 |const v=>simp only[evP,evE,TS.den]
 |global g=>simp only[evP,evE,TS.den]
 |func f=>simp only[evP,evE,TS.den,yo]
theorem SOk.now{s:TS}(h:∀W F H,Agr o E G rd F H->PQ P W o F H s.den):SOk P o E G (.now s rd):=
 ⟨λ_=>rfl,λx f W n F H e d b c=>wau d (h W F H ⟨b,λid a=>c id (.inl a)⟩) ⟨rfl,rfl⟩⟩
theorem SOk.dat{α:Type}{b:Option α}{s:α->TS}(h:∀x,b=some x->∀W F H,Agr o E G rd F H->PQ P W o F H (s x).den):SOk P o E G (.dat α b s rd):=
 ⟨λ_=>rfl,λx g W n F H f e c d=>wau e (h x g W F H ⟨c,λid a=>d id (.inl a)⟩) ⟨rfl,rfl⟩⟩
theorem SOk.vx{b:Bool}{t:Ty}{x:t.D}(h:∀W F H,Agr o E G [] F H->PQ P W o F H (enc t x)):SOk P o E G (.vx b t x):=by
 cases b with
 |true=>exact SOk.dat λy c W F H a=>by cases c;simp only[TS.den];exact h W F H a
 |false=>exact SOk.now λW F H a=>by simp only[TS.den];exact h W F H a
theorem SOk.vo{t:Ty}{a:Option t.D}(h:∀x,a=some x->∀W F H,Agr o E G [] F H->PQ P W o F H (enc t x)):SOk P o E G (.vo t a):=
 SOk.dat λy c W F H b=>by simp only[TS.den];exact h y c W F H b
theorem PQ.ref{p q:PV}(h:PQ P W o F H p)(f:Ref p q):PQ P W o F H q:=λV a w e g=>
 Oper.wp_mono (λi j⟨v,b,c,d⟩=>⟨v,b,f _ _ _ _ _ c,d⟩) (h V a w e g)
def ofCx:(t:Ty)->Value->Option t.D
 |.int k,.int a z=>match ikB k a with
  |true=>some z
  |false=>none
 |.bool,.bool b=>some b
 |.str,.string s=>some s.data.toList
 |_,_=>none
theorem jlb{t:Ty}{v:Value}{x:t.D}(h:ofCx t v=some x):ofV v=enc t x:=by
 unfold ofCx at h;split at h
 ·split at h<;>cases h;rename_i e;rw[z4i e];rfl
 ·cases h;rfl
 ·cases h;rfl
 ·cases h
def Zh(t:Ty):TS->Option t.D
 |.v d=>d.as t
 |.c v=>ofCx t v
 |_=>none
theorem Jc{t:Ty}{s:TS}{x:t.D}(h:Zh t s=some x):s.den=enc t x:=by
 unfold Zh at h;split at h
 ·have:=wag h;subst this;simp only[TS.den]
 ·simp only[TS.den];exact jlb h
 ·cases h
def zeu:TS->Option Int
 |.v ⟨.int _,z⟩=>some z
 |.c (.int _ z)=>some z
 |_=>none
theorem Ye{s:TS}{z:Int}(h:zeu s=some z):∃k,s.den=.u (.int k z):=by
 unfold zeu at h;split at h
 ·cases h;exact⟨_,by simp only[TS.den];rfl⟩
 ·cases h;exact⟨_,by simp only[TS.den];rfl⟩
 ·cases h
def vu{α:Type}(o:Option α)(f:α->Option SR):Option SR:=match o with
 |some a=>f a
 |none=>none
theorem qb{α:Type}{o:Option α}{f:α->Option SR}{q:SR}(h:vu o f=some q):∃a,o=some a/\f a=some q:=by
 cases o with
 |none=>cases h
 |some a=>exact⟨a,rfl,h⟩
def intX(k:IntKind)(c:BinOp)(a b:Int):Option Int:=match c with
 |.add=>some (k.wrap (a+b))
 |.sub=>some (k.wrap (a-b))
 |.mul=>some (k.wrap (a*b))
 |.and=>some (zy9 k a b)
 |.or=>some (orI k a b)
 |.xor=>some (xorI k a b)
 |.andNot=>some (z3g k a b)
 |_=>none
def cmpX(c:BinOp)(a b:Int):Option Bool:=match c with
 |.eql=>some (decide (a=b))
 |.neq=>some (decide (¬a=b))
 |.lss=>some (decide (a<b))
 |.leq=>some (decide (a<=b))
 |.gtr=>some (decide (b<a))
 |.geq=>some (decide (b<=a))
 |_=>none
def jma(k:IntKind)(c:BinOp)(a b:Int):Option (Option Int):=match c with
 |.quo=>some (zsd k a b)
 |.rem=>some (zp6 k a b)
 |.shl=>some (z3u k a b)
 |.shr=>some (zre k a b)
 |_=>none
theorem jll{k:IntKind}{c:BinOp}{a b r:Int}(h:intX k c a b=some r)(t:Nat)(x y:Operand):zi P c t x y (.u (.int k a)) (.u (.int k b))=some (.u (.int k r)):=by
 unfold intX at h;split at h<;>cases h
 ·exact jem
 ·exact jfi
 ·exact jel
 ·exact b_and _ _
 ·exact b_or _ _
 ·exact b_xor _ _
 ·exact jh9 _ _
theorem jn9{k:IntKind}{c:BinOp}{a b:Int}{r:Bool}(h:cmpX c a b=some r)(t:Nat)(x y:Operand):zi P c t x y (.u (.int k a)) (.u (.int k b))=some (.u (.bool r)):=by
 unfold cmpX at h;split at h<;>cases h
 ·exact jiz
 ·exact jjt
 ·exact jjk
 ·exact jkv
 ·exact jjy
 ·exact jjn
theorem jcx{k f:IntKind}{d:BinOp}{a b r:Int}{q:Option Int}(h:jma k d a b=some q)(c:q=some r)(e:d=.shl\/d=.shr\/f=k)(t:Nat)(x y:Operand):zi P d t x y (.u (.int k a)) (.u (.int f b))=some (.u (.int k r)):=by
 unfold jma at h;split at h<;>cases h
 ·rcases e with h|h|h<;>first|cases h|skip
  exact b_quo c
 ·rcases e with h|h|h<;>first|cases h|skip
  exact b_rem c
 ·exact b_shl c
 ·exact b_shr c
def isSh(a:BinOp):Bool:=match a with
 |.shl=>true
 |.shr=>true
 |_=>false
def foldOp(a:BinOp):Bool:=match a with
 |.and=>false
 |.or=>false
 |.xor=>false
 |.andNot=>false
 |_=>true
def isC(x y:TS)(a:BinOp):Bool:=match x with
 |.c _=>match y with
  |.c _=>foldOp a
  |_=>false
 |_=>false
def vxI(c bd:Bool)(k:IntKind)(r:Int):SR:=match c with
 |true => .now (.c (.int k r)) []
 |false => .vx bd (.int k) r
def vxB(c bd:Bool)(r:Bool):SR:=match c with
 |true => .now (.c (.bool r)) []
 |false => .vx bd .bool r
theorem SOk.vxI{c bd:Bool}{k:IntKind}{r:Int}(h:∀W F H,Agr o E G [] F H->PQ P W o F H (.u (.int k r))):SOk P o E G (vxI c bd k r):=by
 cases c with
 |true=>exact SOk.now λW F H a=>by simp only[TS.den];exact h W F H a
 |false=>exact SOk.vx λW F H a=>h W F H a
theorem SOk.vxB{c bd:Bool}{r:Bool}(h:∀W F H,Agr o E G [] F H->PQ P W o F H (.u (.bool r))):SOk P o E G (vxB c bd r):=by
 cases c with
 |true=>exact SOk.now λW F H a=>by simp only[TS.den];exact h W F H a
 |false=>exact SOk.vx λW F H a=>h W F H a
def sInt(bd:Bool)(k:IntKind)(c:BinOp)(x y:TS):Option SR:=match isSh c with
 |true=>vu (Zh (.int k) x) λa=>vu (zeu y) λb=>match jma k c a b with
  |some q=>some (.vo (.int k) q)
  |none=>none
 |false=>vu (Zh (.int k) x) λa=>vu (Zh (.int k) y) λb=>match intX k c a b with
  |some r=>some (vxI (isC x y c) bd k r)
  |none=>match cmpX c a b with
   |some r=>some (vxB (isC x y c) bd r)
   |none=>match jma k c a b with
    |some q=>some (.vo (.int k) q)
    |none=>none
theorem jls{bd:Bool}{k:IntKind}{g:BinOp}{t C:Nat}{x y:Operand}{q:SR}(j:o.op=.binOp g t x y C)(A:zl9 P t y=true)(h:sInt bd k g (evE E x) (evE E y)=some q):SOk P o E G q:=by
 have n:x∈o.op.operands:=by rw[j];simp[Op.operands]
 have p:y∈o.op.operands:=by rw[j];simp[Op.operands]
 have step:∀{W F H}{s u r:PV},(evE E x).den=s->(evE E y).den=u->zi P g t x y s u=some r->Agr o E G [] F H->PQ P W o F H r:=λ{W F H s u r}v w z d=>by
  refine qp ?_;unfold Vg;rw[j];simp only;rw[zl0 A,d.ev n,d.ev p,v,w,z]
 unfold sInt at h;split at h
 ·rename_i m;obtain⟨a,d,h⟩:=qb h;obtain⟨b,f,h⟩:=qb h;split at h<;>try (cases h;done)
  rename_i B l;cases h;obtain⟨D,i⟩:=Ye f;refine SOk.vo λr e W F H c=>step (Jc d) i (jcx l e ?_ t x y) c;cases g<;>first|exact .inl rfl|exact .inr (.inl rfl)|(simp[isSh]at m)
 ·obtain⟨a,d,h⟩:=qb h;obtain⟨b,f,h⟩:=qb h;split at h
  ·rename_i r e;cases h;exact SOk.vxI λW F H c=>step (Jc d) (Jc f) (jll e t x y) c
  ·split at h
   ·rename_i r e;cases h;exact SOk.vxB λW F H c=>step (Jc d) (Jc f) (jn9 e t x y) c
   ·split at h<;>try (cases h;done)
    rename_i B l;cases h;exact SOk.vo λr e W F H c=>step (Jc d) (Jc f) (jcx l e (.inr (.inr rfl)) t x y) c
def jj4(bd:Bool)(c:BinOp)(x y:TS):Option SR:=vu (Zh .bool x) λa=>vu (Zh .bool y) λb=>match c with
 |.eql=>some (.vx bd .bool (a == b))
 |.neq=>some (.vx bd .bool (a != b))
 |_=>none
theorem jhg{bd:Bool}{g:BinOp}{t n:Nat}{x y:Operand}{q:SR}(i:P.underlying t=some .bool)(d:o.op=.binOp g t x y n)(m:zl9 P t y=true)(h:jj4 bd g (evE E x) (evE E y)=some q):SOk P o E G q:=by
 have e:x∈o.op.operands:=by rw[d];simp[Op.operands]
 have f:y∈o.op.operands:=by rw[d];simp[Op.operands]
 unfold jj4 at h;obtain⟨a,k,h⟩:=qb h;obtain⟨b,l,h⟩:=qb h;have step:∀{W F H}{r:Bool},zi P g t x y (.u (.bool a)) (.u (.bool b))=some (.u (.bool r))->Agr o E G [] F H->PQ P W o F H (.u (.bool r)):=λ{W F H r}j c=>by
  refine qp ?_;unfold Vg;rw[d];simp only;rw[zl0 m,c.ev e,c.ev f,Jc k,Jc l];exact j
 split at h<;>cases h
 ·exact SOk.vx λW F H c=>step (b_eqB a b i) c
 ·exact SOk.vx λW F H c=>step (b_neB a b i) c
def jhk(a b:List UInt8):Option (List UInt8):=match decide (((a.length+b.length:Nat):Int)<=9223372036854775807)with
 |true=>some (a++b)
 |false=>none
def sStr(bd:Bool)(c:BinOp)(x y:TS):Option SR:=vu (Zh .str x) λa=>vu (Zh .str y) λb=>match c with
 |.eql=>some (.vx bd .bool (a == b))
 |.neq=>some (.vx bd .bool (!(a == b)))
 |.lss=>some (.vx bd .bool (Op.bytesLess a b))
 |.add=>some (.vo .str (jhk a b))
 |_=>none
theorem zea(a:List UInt8):(ByteArray.mk ⟨a⟩).toList=a:=by
 rw[ByteArray.toList_eq]
theorem jn0{bd:Bool}{k:BinOp}{t v:Nat}{x y:Operand}{q:SR}(f:o.op=.binOp k t x y v)(s:zl9 P t y=true)(h:sStr bd k (evE E x) (evE E y)=some q):SOk P o E G q:=by
 have i:x∈o.op.operands:=by rw[f];simp[Op.operands]
 have j:y∈o.op.operands:=by rw[f];simp[Op.operands]
 unfold sStr at h;obtain⟨a,n,h⟩:=qb h;obtain⟨b,p,h⟩:=qb h;have step:∀{W F H}{r:PV},zi P k t x y (.u (.string ⟨⟨a⟩⟩)) (.u (.string ⟨⟨b⟩⟩))=some r->Agr o E G [] F H->PQ P W o F H r:=λ{W F H r}m c=>by
  refine qp ?_;unfold Vg;rw[f];simp only;rw[zl0 s,c.ev i,c.ev j,Jc n,Jc p];exact m
 split at h<;>cases h
 ·refine SOk.vx λW F H c=>?_;have:=jec (P:=P) (t:=t) (x:=x) (y:=y) (⟨⟨a⟩⟩:ByteArray) ⟨⟨b⟩⟩;rw[zea,zea]at this;exact step this c
 ·refine SOk.vx λW F H c=>?_;have:=jgg (P:=P) (t:=t) (x:=x) (y:=y) (⟨⟨a⟩⟩:ByteArray) ⟨⟨b⟩⟩;rw[zea,zea]at this;exact step this c
 ·refine SOk.vx λW F H c=>?_;have:=b_lssS (P:=P) (t:=t) (x:=x) (y:=y) (⟨⟨a⟩⟩:ByteArray) ⟨⟨b⟩⟩;unfold bltS at this;rw[zea,zea]at this;exact step this c
 ·refine SOk.vo λr g W F H c=>?_;unfold jhk at g;split at g<;>cases g;rename_i d;have d:=wcd d;have:jnu (⟨⟨a⟩⟩:ByteArray) ⟨⟨b⟩⟩=some (⟨⟨a⟩⟩ ++ ⟨⟨b⟩⟩):=by
   unfold jnu;rw[if_pos];exact d
  have l:=b_addS (P:=P) (t:=t) (x:=x) (y:=y) this;have e:(⟨⟨a⟩⟩ ++ ⟨⟨b⟩⟩:ByteArray)=⟨⟨a++b⟩⟩:=by
   apply ByteArray.ext;rw[ByteArray.data_append];simp
  rw[e]at l;exact step l c
theorem z6z{x:Operand}(a:o.op=.move x\/o.op=.assign x):SOk P o E G (.now (evE E x) []):=SOk.now λW F H b=>by
 refine qp ?_;unfold Vg;rcases a with a|a
 ·rw[a];simp only;rw[b.ev (by rw[a];simp[Op.operands])]
 ·rw[a];simp only;rw[b.ev (by rw[a];simp[Op.operands])]
def jkk:TS->Option Ty
 |.v d=>some d.t
 |.c (.bool _)=>some .bool
 |.c (.int k _)=>some (.int k)
 |.c (.string _)=>some .str
 |_=>none
def jkf(bd:Bool)(c x y:TS):Option SR:=match c with
 |.c (.bool true)=>some (.now x [])
 |.c (.bool false)=>some (.now y [])
 |.v ⟨.bool,b⟩=>match jkk x with
  |none=>none
  |some t=>match jkk y with
   |none=>none
   |some a=>match t with
    |.bool=>vu (Zh .bool x) λp=>vu (Zh .bool y) λq=>some (.vx bd .bool (cond b p q))
    |t=>vu (Zh t x) λp=>vu (Zh t y) λq=>some (.vx bd t (cond b p q))
 |_=>none
theorem jhh{bd:Bool}{c x y:Operand}{q:SR}(g:o.op=.pick c x y)(h:jkf bd (evE E c) (evE E x) (evE E y)=some q):SOk P o E G q:=by
 have k:c∈o.op.operands:=by rw[g];simp[Op.operands]
 have l:x∈o.op.operands:=by rw[g];simp[Op.operands]
 have m:y∈o.op.operands:=by rw[g];simp[Op.operands]
 have step:∀{W F H}{b:Bool}{i j:PV},(evE E c).den=.u (.bool b)->(evE E x).den=i->(evE E y).den=j->Agr o E G [] F H->PQ P W o F H (if b then i else j):=λ{W F H b i j}e n r a=>by
  refine qp ?_;unfold Vg;rw[g];simp only;rw[a.ev k,a.ev l,a.ev m,e,n,r]
 have d:∀{t:Ty}{b:Bool}{q:SR},(evE E c).den=.u (.bool b)->(vu (Zh t (evE E x)) λp=>vu (Zh t (evE E y)) λq=>some (.vx bd t (cond b p q)))=some q->SOk P o E G q:=λ{t b q}e h=>by
  obtain⟨i,s,h⟩:=qb h;obtain⟨j,v,h⟩:=qb h;cases h;refine SOk.vx λW F H a=>?_;have:=step (W:=W) e (Jc s) (Jc v) a;cases b<;>exact this
 unfold jkf at h;split at h
 ·rename_i f;cases h;exact SOk.now λW F H a=>by
   have:=step (W:=W) (b:=true) (by rw[f];simp only[TS.den];rfl) rfl rfl a;exact this
 ·rename_i f;cases h;exact SOk.now λW F H a=>by
   have:=step (W:=W) (b:=false) (by rw[f];simp only[TS.den];rfl) rfl rfl a;exact this
 ·rename_i b f;have e:(evE E c).den=.u (.bool b):=by rw[f];simp only[TS.den];rfl
  split at h<;>try (cases h;done)
  split at h<;>try (cases h;done)
  split at h
  ·exact d e h
  ·exact d e h
 ·cases h
def sNot(bd:Bool)(x:TS):Option SR:=vu (Zh .bool x) λb=>some (.vx bd .bool (!b))
theorem jmb{bd:Bool}{t:TypeId}{x:Operand}{q:SR}(d:o.op=.unOp .not t x)(h:sNot bd (evE E x)=some q):SOk P o E G q:=by
 have c:x∈o.op.operands:=by rw[d];simp[Op.operands]
 obtain⟨b,e,h⟩:=qb h;cases h;refine SOk.vx λW F H a=>qp ?_;unfold Vg;rw[d];simp only;rw[a.ev c,Jc e];exact jnr b
def joz(bd:Bool)(k:IntKind)(x:TS):Option SR:=vu (zeu x) λz=>some (.vx bd (.int k) (k.wrap z))
theorem jj9{bd:Bool}{t e:TypeId}{x:Operand}{k:IntKind}{q:SR}(d:o.op=.convert t e x)(f:(zmq P t).isSome=true)(g:zmq P e=some k)(h:joz bd k (evE E x)=some q):SOk P o E G q:=by
 have c:x∈o.op.operands:=by rw[d];simp[Op.operands]
 obtain⟨z,hz,h⟩:=qb h;cases h;obtain⟨i,b⟩:=Ye hz;refine SOk.vx λW F H a=>qp ?_;unfold Vg;rw[d];simp only;rw[a.ev c,b];exact jfx f g
end
def SR.vr(b:Bool)(t:Ty)(x:t.D)(rd:List Nat):SR:=match b with
 |true => .dat t.D (some x) (λy=> .v ⟨t,y⟩) rd
 |false => .now (.v ⟨t,x⟩) rd
section
variable{P:Program}{o:Oper}{E:EF}{G:EG}{rd:List Nat}{F:PFrame}{H:PHeap}{W:Env}
theorem SOk.vr{b:Bool}{t:Ty}{x:t.D}(h:∀W F H,Agr o E G rd F H->PQ P W o F H (enc t x)):SOk P o E G (.vr b t x rd):=by
 cases b with
 |true=>exact SOk.dat λy c W F H a=>by cases c;simp only[TS.den];exact h W F H a
 |false=>exact SOk.now λW F H a=>by simp only[TS.den];exact h W F H a
theorem wbk{cs c:List PV}:Ref (.rp (cs++c)) (.rp cs):=λZ H V w v h=>by
 cases h with
 |rp _ b j g hz f d e=>
  refine .rp _ b j g hz f (λi p a=>d i p ?_) λi p a=>e i p ?_
  ·rw[wcr (wcg.1 a).1];exact a
  ·rw[wcr (wcg.1 a).1];exact a
def znm:(r:Ty)->r.D->Nat->Option Dyn
 |.cons a _,x,0=>some ⟨a,x.1⟩
 |.cons _ r,x,i+1=>znm r x.2 i
 |_,_,_=>none
theorem jcm:∀(r:Ty)(x:r.D)(i:Nat)(d:Dyn),znm r x i=some d->(ye r (jq r x))[i]?=some (enc d.t d.x)
 |.cons a r,x,0,d,h=>by
  simp only[znm]at h;cases h;simp only[ye,jq,we2];rw[wfh (qa a x.1)];rfl
 |.cons a r,x,i+1,d,h=>by
  simp only[znm]at h;simp only[ye,jq,we3];rw[we1 (qa a x.1)];exact jcm r x.2 i d h
 |.int _,_,_,_,h=>by simp[znm]at h
 |.bool,_,_,_,h=>by simp[znm]at h
 |.str,_,_,_,h=>by simp[znm]at h
 |.sl _,_,_,_,h=>by simp[znm]at h
 |.ref _,_,_,_,h=>by simp[znm]at h
 |.arr _ _,_,_,_,h=>by simp[znm]at h
 |.nil,_,_,_,h=>by simp[znm]at h
 |.st _,_,_,_,h=>by simp[znm]at h
 |.tup _,_,_,_,h=>by simp[znm]at h
def sExt(x:TS)(i:Nat):Option SR:=match x with
 |.tup a=>match a[i]? with
  |some y=>some (.now y [])
  |none=>none
 |.v ⟨.tup r,p⟩=>match znm r p i with
  |some d=>some (.now (.v d) [])
  |none=>none
 |_=>none
theorem jon{x:Operand}{i:Nat}{q:SR}(e:o.op=.extract x i)(h:sExt (evE E x) i=some q):SOk P o E G q:=by
 have c:x∈o.op.operands:=by rw[e];simp[Op.operands]
 have step:∀{W F H}{cs:List PV}{r:PV},(evE E x).den=.tup cs->cs[i]?=some r->Agr o E G [] F H->PQ P W o F H r:=λ{W F H cs r}f g a=>by
  refine qp ?_;unfold Vg;rw[e];simp only;rw[a.ev c,f];exact g
 unfold sExt at h;split at h
 ·rename_i l b;split at h<;>try (cases h;done)
  rename_i y k;cases h;refine SOk.now λW F H a=>step (cs:=yo l) (by rw[b];simp only[TS.den]) ?_ a;rw[zep,wcp,k];rfl
 ·rename_i r p b;split at h<;>try (cases h;done)
  rename_i d j;cases h;refine SOk.now λW F H a=>?_;simp only[TS.den];exact step (cs:=ye r (jq r p)) (by rw[b];simp only[TS.den];rfl) (jcm r p i d j) a
 ·cases h
theorem zl{id ver k:Nat}{n:Nat}{t:TypeId}{cs:List PV}(a:H (.o id)=v6 id (G id)){bd:BD}(c:(G id).b=some bd)(d:bd.den id (G id).cv=.row t k n cs)(e:(G id).ver=ver):Jf H (.o id) ver=some (t,k,n,cs):=by
 unfold Jf;rw[a];simp only[v6,c,wc3,d];rw[if_pos e]
theorem zed{id ver k n:Nat}(a:H (.o id)=v6 id (G id)){bd:BD}(c:(G id).b=some bd)(d:(bd.den id (G id).cv).kn=some (k,n))(e:(G id).ver=ver):zf9 H (.o id) ver=some (k,n):=by
 unfold zf9;rw[a];simp only[v6,c,wc3];rw[if_pos e];exact d
def cellsB:BD->Option (List TS)
 |.box _ a=>some a
 |_=>none
theorem J9{id ver:Nat}{t:TypeId}{xs:List TS}(a:H (.o id)=v6 id (G id))(c:(G id).b=some (.box t xs))(d:(G id).ver=ver):qg H (.o id) ver=some (qd xs):=by
 unfold qg;rw[a];simp only[v6,c,wc3,BD.den];rw[if_pos d]
theorem Qk{id ver:Nat}{k n:Nat}{t:TypeId}{cs:List PV}(a:H (.o id)=v6 id (G id)){bd:BD}(c:(G id).b=some bd)(d:bd.den id (G id).cv=.row t k n cs)(e:(G id).ver=ver):qg H (.o id) ver=some cs:=by
 unfold qg;rw[a];simp only[v6,c,wc3,d];rw[if_pos e]
theorem zyv{id ver:Nat}{k n:Nat}{t:TypeId}{cs:List PV}(a:H (.o id)=v6 id (G id)){bd:BD}(c:(G id).b=some bd)(d:bd.den id (G id).cv=.que t k n cs)(e:(G id).ver=ver):qg H (.o id) ver=some cs:=by
 unfold qg;rw[a];simp only[v6,c,wc3,d];rw[if_pos e]
def atL{α:Type}(l:List α)(z:Int):Option α:=match decide (0<=z)with
 |true=>l[z.toNat]?
 |false=>none
def jw(n:Nat)(z:Int):Option Int:=match decide (0<=z)with
 |true=>match decide (z.toNat<n)with
  |true=>some z
  |false=>none
 |false=>none
theorem Zt{α:Type}{l:List α}{z:Int}{y:α}(h:atL l z=some y):0<=z/\l[z.toNat]?=some y:=by
 unfold atL at h;split at h
 ·rename_i h0;exact⟨wcd h0,h⟩
 ·cases h
theorem zj3{n:Nat}{z y:Int}(h:jw n z=some y):0<=z/\z.toNat<n/\y=z:=by
 unfold jw at h;split at h
 ·rename_i h0;split at h
  ·rename_i a;cases h;exact⟨wcd h0,wcd a,rfl⟩
  ·cases h
 ·cases h
structure Kids where
 t:Ty
 it:TypeId
 l:List (List t.D)
 h:Hole
def BD.kids:BD->Option Kids
 |.rows _ a t l _ h=>some ⟨t,a,l,h⟩
 |.mrows _ a t b _ h=>some ⟨t,a,b.map λe=>e.2.1,h⟩
 |_=>none
def Kids.at(k:Kids)(p:Int):Option (List k.t.D):=match k.h with
 |none=>atL k.l p
 |some x=>match Nat.beq p.toNat x with
  |true=>none
  |false=>atL k.l p
def zjw(G:EG)(id v:Nat):Option Kids:=match Nat.beq (G id).cv v with
 |true=>match (G id).b with
  |some b=>b.kids
  |none=>none
 |false=>none
theorem wao{k:Kids}{p:Int}{y:List k.t.D}(h:k.at p=some y):0<=p/\k.l[p.toNat]?=some y/\k.h.is p.toNat=false:=by
 unfold Kids.at at h;split at h
 ·rename_i e;exact⟨(Zt h).1,(Zt h).2,by rw[e];rfl⟩
 ·rename_i e;split at h
  ·cases h
  ·rename_i a;exact⟨(Zt h).1,(Zt h).2,by rw[e];exact a⟩
theorem zgi{id v:Nat}{k:Kids}{p:Int}{y:List k.t.D}(a:zjw G id v=some k)(l:k.at p=some y)(j:AgN H G id):H (.c id p.toNat)=⟨v,some (.row k.it (wid k.t) y.length (y.flatMap (jq k.t)))⟩:=by
 obtain⟨_,d,g⟩:=wao l;unfold zjw at a;split at a<;>try (cases a;done)
 rename_i f;have f:=wcj f;split at a<;>try (cases a;done)
 rename_i b i;rw[j.2];unfold zac;rw[f,i];unfold BD.kids at a;split at a<;>cases a
 ·simp only[wdr,BD.ch];rw[g];simp only[d,wc3]
 ·simp only[wdr,BD.ch];simp only[wcp]at d;obtain⟨e,h,rfl⟩:=wcs.1 d;rw[g];simp only[h,wc3]
abbrev i64:Ty :=.int .i64
def jav(bd:Bool)(sl:Bool)(G:EG)(x:TS):Option SR:=match sl with
 |true=>match x with
  |.v ⟨.sl _,l⟩=>some (.vr bd i64 (l.length:Int) [])
  |.own id a=>match Nat.beq (G id).ver a with
   |true=>match (G id).b with
    |some (.row _ t l)=>some (.vr bd i64 (l.length:Int) [id])
    |some (.rowx _ _ d)=>some (.now (.c (.int .i64 d.length)) [id])
    |some (.que _ t l)=>some (.vr bd i64 (l.length:Int) [id])
    |some (.rows _ _ t l _ _)=>some (.vr bd i64 (l.length:Int) [id])
    |_=>none
   |false=>none
  |.kid id p v=>match zjw G id v with
   |some k=>some (.dat (List k.t.D) (k.at p) (λy=> .v ⟨i64,(y.length:Int)⟩) [id])
   |none=>none
  |.c (.slice _ n _)=>some (.now (.c (.int .i64 n)) [])
  |_=>none
 |false=>match x with
  |.v ⟨.str,s⟩=>some (.vr bd i64 (s.length:Int) [])
  |.c (.string s)=>some (.vr bd i64 (s.data.toList.length:Int) [])
  |_=>none
theorem jcr{bd sl:Bool}{t:Nat}{x:Operand}{q:SR}(A:o.op=.call { callee :=.builtin .len,args:=#[x],argTypes:=#[t] })(g:sl=true->zak P t=true)(m:sl=false->zc3 P t=true)(h:jav bd sl G (evE E x)=some q):SOk P o E G q:=by
 have z:x∈o.op.operands:=by rw[A];simp[Op.operands,Call.operands]
 have step:∀{rd W F H}{p r:PV},(evE E x).den=p->L.lenP P H t p=some r->Agr o E G rd F H->PQ P W o F H r:=λ{rd W F H p r}B C b=>by
  refine qp ?_;unfold Vg;rw[A];show L.lenP P H t (evP F x)=_;rw[b.ev z,B];exact C
 unfold jav at h;cases sl with
 |true=>
  simp only at h;split at h
  ·rename_i w l d;cases h;refine SOk.vr λW F H b=>step (p :=.sl (wid w) (l.map (enc w))) (by rw[d];simp only[TS.den];rfl) ?_ b;unfold L.lenP;simp only;rw[if_pos (g rfl),wcv];rfl
  ·rename_i id e d;split at h<;>try (cases h;done)
   rename_i j;have j:=wcj j;split at h
   ·rename_i i w l f;cases h;refine SOk.vr λW F H b=>step (p :=.ps (.o id) e) (by rw[d];simp only[TS.den]) ?_ b;unfold L.lenP;simp only;rw[if_pos (g rfl),zed (b.h id (by simp)) f rfl j];rfl
   ·rename_i i k K f;cases h;refine SOk.now λW F H b=>?_;refine(step (p :=.ps (.o id) e) (by rw[d];simp only[TS.den]) ?_ b:PQ P W o F H (.u (.int .i64 K.length)));unfold L.lenP;simp only;rw[if_pos (g rfl),zed (b.h id (by simp)) f rfl j];rfl
   ·rename_i i w l f;cases h;refine SOk.vr λW F H b=>step (p :=.ps (.o id) e) (by rw[d];simp only[TS.den]) ?_ b;unfold L.lenP;simp only;rw[if_pos (g rfl),zed (b.h id (by simp)) f rfl j];rfl
   ·rename_i i N w l kv M f;cases h;refine SOk.vr λW F H b=>step (p :=.ps (.o id) e) (by rw[d];simp only[TS.den]) ?_ b;unfold L.lenP;simp only;rw[if_pos (g rfl),zed (b.h id (by simp)) f rfl j];rfl
   ·cases h
  ·rename_i id p v d;split at h<;>cases h;rename_i k D;refine SOk.dat λy I W F H b=>step (p :=.ps (.c id p.toNat) v) (by rw[d];simp only[TS.den]) ?_ b;unfold L.lenP zf9;simp only;rw[if_pos (g rfl),zgi D I (b.hn id (by simp))];simp only[if_true,PBody.kn,TS.den];rfl
  ·rename_i a n c d;cases h;refine SOk.now λW F H b=>?_;refine(step (p :=.u (.slice a n c)) (by rw[d];simp only[TS.den];rfl) ?_ b:PQ P W o F H (.u (.int .i64 n)));unfold L.lenP;simp only;rw[if_pos (g rfl)]
  ·cases h
 |false=>
  simp only at h;split at h
  ·rename_i s d;cases h;refine SOk.vr λW F H b=>step (p :=.u (.string ⟨⟨s⟩⟩)) (by rw[d];simp only[TS.den];rfl) ?_ b;unfold L.lenP;simp only;rw[if_pos (m rfl)];rfl
  ·rename_i s d;cases h;refine SOk.vr λW F H b=>step (p :=.u (.string s)) (by rw[d];simp only[TS.den];rfl) ?_ b;unfold L.lenP;simp only;rw[if_pos (m rfl)];rfl
  ·cases h
def oeq(a b:Option Nat):Bool:=match a,b with
 |some x,some y=>Nat.beq x y
 |_,_=>false
theorem zhc{a:Option Nat}{k:Nat}(h:oeq a (some k)=true):a=some k:=by
 unfold oeq at h;split at h
 ·rename_i e;cases e;rw[wcj h]
 ·cases h
def jgx:TS->Option Int
 |.c (.int _ z)=>some z
 |_=>none
def jo6:List TS->Nat->Bool
 |[],_=>false
 |x::b,a=>match Nat.blt a (Za x)with
  |true=>match x with
   |.v ⟨.arr _ _,_⟩=>Nat.beq a 0
   |_=>false
  |false=>jo6 b (a-Za x)
def cstA(xs:List TS)(off:Nat)(i:TS):Option Int:=match jo6 xs off with
 |true=>none
 |false=>jgx i
theorem jf1{xs:List TS}{off:Nat}{i:TS}{z:Int}(h:cstA xs off i=some z):jgx i=some z:=by
 unfold cstA at h;split at h
 ·cases h
 ·exact h
def sIdx(es:Option Nat)(f:Option (Nat×Nat))(G:EG)(x i:TS):Option SR:=vu (zeu i) λz=>match x with
 |.v ⟨.sl t,l⟩=>match oeq es (some (wid t))with
  |true=>some (.dat t.D (atL l z) (λy=> .rd ⟨t,y⟩) [])
  |false=>none
 |.rd ⟨.arr n t,a⟩=>match f with
  |some (g,k)=>match Nat.beq g n && Nat.beq k (wid t)with
   |true=>some (.dat t.D (atL a.l z) (λy=> .rd ⟨t,y⟩) [])
   |false=>none
  |none=>none
 |.own id c=>match Nat.beq (G id).ver c with
  |true=>match (G id).b with
   |some (.row _ t l)=>match oeq es (some (wid t))with
    |true=>some (.dat Int (jw l.length z) (λy=> .elt id (wid t) y 0 c) [id])
    |false=>none
   |some (.que _ t l)=>match oeq es (some (wid t))with
    |true=>some (.dat Int (jw l.length z) (λy=> .elt id (wid t) y 0 c) [id])
    |false=>none
   |some (.rows _ _ _ l _ _)=>match oeq es (some 1)with
    |true=>some (.dat Int (jw l.length z) (λy=> .elt id 1 y 0 c) [id])
    |false=>none
   |some (.rowx _ k e)=>match oeq es (some k)with
    |true=>match jgx i with
     |some z=>match jw e.length z with
      |some z=>some (.now (.pt id (z.toNat*k) c) [id])
      |none=>none
     |none=>none
    |false=>none
   |_=>none
  |false=>none
 |.kid id p v=>match zjw G id v with
  |some k=>match oeq es (some (wid k.t))with
   |true=>some (.dat Int (ja (k.at p) λy=>jw y.length z) (λy=> .kel id p (wid k.t) y 0 v) [id])
   |false=>none
  |none=>none
 |.pt id d c=>match Nat.beq (G id).ver c with
  |true=>match (G id).b with
   |some (.box _ e)=>match f with
    |some (n,k)=>match cstA e d i with
     |some z=>match jw n z with
      |some z=>some (.now (.pt id (d+z.toNat*k) c) [id])
      |none=>none
     |none=>some (.dat Int (jw n z) (λy=> .elt id k y d c) [id])
    |none=>none
   |_=>none
  |false=>none
 |_=>none
theorem z2q{i:TS}{z b:Int}(h:jgx i=some z)(a:zeu i=some b):z=b:=by
 unfold jgx at h;split at h
 ·cases h;simp only[zeu]at a;cases a;rfl
 ·cases h
theorem zdo{α:Type}(f:α->List PV)(k:Nat):∀(l:List α),(∀x∈l,(f x).length=k)->∀(j:Nat)(y:α),l[j]?=some y->∃b,(l.flatMap f).drop (j*k)=f y++b
 |[],_,j,y,h=>by simp at h
 |a::l,c,0,y,h=>by
  simp at h;subst h;exact⟨l.flatMap f,by simp⟩
 |a::l,c,j+1,y,h=>by
  obtain⟨b,d⟩:=zdo f k l (λx e=>c x (by simp[e])) j y (by simpa using h);refine⟨b,?_⟩;rw[wdd,wfw,wfr,<- List.drop_drop,we1 (c a (by simp))];exact d
theorem jom{t:Nat}{x i:Operand}{q:SR}(U:o.op=.indexAddr t x i)(h:sIdx (esz P t) (arr P t) G (evE E x) (evE E i)=some q):SOk P o E G q:=by
 have X:x∈o.op.operands:=by rw[U];simp[Op.operands]
 have R:i∈o.op.operands:=by rw[U];simp[Op.operands]
 unfold sIdx at h;obtain⟨z,hz,h⟩:=qb h;obtain⟨kd,hk⟩:=Ye hz;have step:∀{rd W F H}{p r:PV},(evE E x).den=p->L.indexAddrP P H t p (.u (.int kd z))=some r->Agr o E G rd F H->PQ P W o F H r:=λ{rd W F H p r}h1 h2 d=>by
  refine qp ?_;unfold Vg;rw[U];simp only;rw[d.ev X,d.ev R,h1,hk];exact h2
 split at h
 ·rename_i w l A;split at h<;>cases h;rename_i f;have f:=zhc f;refine SOk.dat λy j W F H d=>?_;obtain⟨h0,j⟩:=Zt j;simp only[TS.den];refine step (p :=.sl (wid w) (l.map (enc w))) (by rw[A];simp only[TS.den];rfl) ?_ d;unfold L.indexAddrP;simp only;rw[if_pos h0,if_pos f,wcp,j];simp only[wc3,enc_cells]
 ·rename_i n w a A;split at h<;>try (cases h;done)
  rename_i Y k D;split at h<;>cases h;rename_i s;simp only[wcl]at s;have J:=wcj s.1;have e2:=wcj s.2;subst J;subst e2;refine SOk.dat λy j W F H d=>?_;obtain⟨h0,j⟩:=Zt j;simp only[TS.den];have g:z.toNat<Y:=by rw[<- a.h];exact(wcg.1 j).1
  obtain⟨O,V⟩:=zdo (jq w) (wid w) a.l (λx _=>qa w x) _ y j;refine PQ.ref (step (p :=.rp (jq (.arr Y w) a)) (r :=.rp (jq w y++O)) (by rw[A];simp only[TS.den]) ?_ d) wbk;unfold L.indexAddrP;simp only;rw[if_pos h0,D];simp only;rw[if_pos g];simp only[jq];rw[V]
 ·rename_i id m A;split at h<;>try (cases h;done)
  rename_i C;have C:=wcj C;have told:∀{Q:BD}{k n:Nat}{q:SR},(G id).b=some Q->(Q.den id (G id).cv).kn=some (k,n)->oeq (esz P t) (some k)=true->q=.dat Int (jw n z) (λy=> .elt id k y 0 m) [id]->SOk P o E G q:=λ{Q k n q}s T f e=>by
   subst e;have f:=zhc f;refine SOk.dat λy j W F H d=>?_;obtain⟨h0,g,rfl⟩:=zj3 j;refine(step (p :=.ps (.o id) m) (by rw[A];simp only[TS.den]) ?_ d:PQ P W o F H (TS.elt id k y 0 m).den);simp only[TS.den];unfold L.indexAddrP;simp only;rw[if_pos h0,zed (d.h id (by simp)) s T C];simp only;rw[if_pos ⟨f,g⟩];rfl
  split at h
  ·rename_i B w l s;split at h<;>cases h;rename_i f;exact told s rfl f rfl
  ·rename_i B w l s;split at h<;>cases h;rename_i f;exact told s rfl f rfl
  ·rename_i B it w l kv hh s;split at h<;>cases h;rename_i f;exact told s rfl f rfl
  ·rename_i B k xs s;split at h<;>try (cases h;done)
   rename_i f;have f:=zhc f;split at h<;>try (cases h;done)
   rename_i z1 I;have:=z2q I hz;subst this;split at h<;>cases h;rename_i Z K;obtain⟨h0,g,rfl⟩:=zj3 K;refine SOk.now λW F H d=>?_;refine(step (p :=.ps (.o id) m) (by rw[A];simp only[TS.den]) ?_ d:PQ P W o F H (TS.pt id (Z.toNat*k) m).den);simp only[TS.den];unfold L.indexAddrP;simp only;rw[if_pos h0,zed (d.h id (by simp)) s rfl C];simp only;rw[if_pos ⟨f,g⟩]
  ·cases h
 ·rename_i id p v A;split at h<;>try (cases h;done)
  rename_i k S;split at h<;>cases h;rename_i f;have f:=zhc f;refine SOk.dat λy j W F H d=>?_;obtain⟨r,V,j⟩:=yb j;obtain⟨h0,g,rfl⟩:=zj3 j;refine(step (p :=.ps (.c id p.toNat) v) (by rw[A];simp only[TS.den]) ?_ d:PQ P W o F H (TS.kel id p (wid k.t) y 0 v).den);simp only[TS.den];unfold L.indexAddrP zf9;simp only;rw[if_pos h0,zgi S V (d.hn id (by simp))];simp only[if_true,PBody.kn];rw[if_pos ⟨f,g⟩];rfl
 ·rename_i id N m A;split at h<;>try (cases h;done)
  rename_i C;have C:=wcj C;split at h<;>try (cases h;done)
  rename_i B xs s;split at h<;>try (cases h;done)
  rename_i n k D;have M:∀{W F H}{y:Int},jw n z=some y->Agr o E G [id] F H->PQ P W o F H (.pp (.o id) (N+y.toNat*k) m):=λ{W F H y}j d=>by
   obtain⟨h0,g,rfl⟩:=zj3 j;refine step (p :=.pp (.o id) N m) (by rw[A];simp only[TS.den]) ?_ d;unfold L.indexAddrP;simp only;rw[if_pos h0,D];simp only;rw[if_pos g,J9 (d.h id (by simp)) s C];rfl
  split at h
  ·rename_i z1 I;have:=z2q (jf1 I) hz;subst this;split at h<;>cases h;rename_i Z K;exact SOk.now λW F H d=>by simp only[TS.den];exact M K d
  ·cases h;refine SOk.dat λy j W F H d=>?_;simp only[TS.den];rw[wfr];exact M j d
 ·cases h
end
def ldT(ag:Bool)(k off:Nat)(xs:List TS):Option TS:=match Y8 512 off xs with
 |none=>none
 |some q=>match Y8 512 k q.2 with
  |none=>none
  |some r=>match zct ag r.1 with
   |.dead=>none
   |s=>match ag ||Nat.beq k 1 with
    |true=>some s
    |false=>none
theorem zmd{ag:Bool}{k off:Nat}{xs:List TS}{s:TS}(h:ldT ag k off xs=some s):(∃p,Y2 ag k ((qd xs).drop off)=some p/\Ref p s.den)/\∃a,(qd xs).drop off=s.den.cells++a:=by
 unfold ldT at h;split at h<;>try (cases h;done)
 rename_i q l;split at h<;>try (cases h;done)
 rename_i r m;split at h<;>try (cases h;done)
 rename_i b;split at h<;>cases h;rename_i c;obtain⟨d,f⟩:=Q3 _ _ _ _ l;obtain⟨g,i⟩:=Q3 _ _ _ _ m;have e:(qd xs).drop off=qd r.1++qd r.2:=by rw[<- d,we1 f,g]
 rw[e];refine⟨jc6 i λj=>?_,qd r.2,by rw[Z0 b]⟩;rw[j]at c;exact wcj (by simpa using c)
section
variable{P:Program}{o:Oper}{E:EF}{G:EG}{rd:List Nat}{F:PFrame}{H:PHeap}{W:Env}
def sFld(e k:Nat)(ag:Bool)(G:EG)(x:TS):Option SR:=match Nat.beq k 0 with
 |true=>none
 |false=>match x with
  |.rd d=>match ldT ag k e [.v d]with
   |some (.v f)=>some (.now (.rd f) [])
   |_=>none
  |.pt id c a=>match Nat.beq (G id).ver a with
   |true=>match (G id).b with
    |some (.box _ _)=>some (.now (.pt id (c+e) a) [id])
    |some (.rowx _ _ _)=>some (.now (.pt id (c+e) a) [id])
    |_=>none
   |false=>none
  |.elt id w i c a=>match Nat.beq (G id).ver a with
   |true=>match (G id).b with
    |some (.box _ _)=>some (.now (.elt id w i (c+e) a) [id])
    |some (.row _ _ _)=>some (.now (.elt id w i (c+e) a) [id])
    |_=>none
   |false=>none
  |_=>none
theorem zm0{id ver:Nat}(c:H (.o id)=v6 id (G id)){bd:BD}(d:(G id).b=some bd)(f:(∃t a,bd=.box t a)\/(∃t k a,bd=.rowx t k a)\/(∃t y l,bd=.row t y l))(e:(G id).ver=ver):(qg H (.o id) ver).isSome=true:=by
 rcases f with⟨t,a,rfl⟩|⟨t,k,a,rfl⟩|⟨t,y,l,rfl⟩
 ·rw[J9 c d e];rfl
 ·rw[Qk c d rfl e];rfl
 ·rw[Qk c d rfl e];rfl
theorem jmf{s f z I k:Nat}{ag:Bool}{x:Operand}{q:SR}(M:o.op=.fieldAddr s x f)(K:fof P s f=some (z,I))(O:asz P I=some (ag,k))(h:sFld z k ag G (evE E x)=some q):SOk P o E G q:=by
 have B:x∈o.op.operands:=by rw[M];simp[Op.operands]
 have step:∀{rd W F H}{p r:PV},(evE E x).den=p->L.fieldAddrP P H s f p=some r->Agr o E G rd F H->PQ P W o F H r:=λ{rd W F H p r}A u a=>by
  refine qp ?_;unfold Vg;rw[M];simp only;rw[a.ev B,A];exact u
 unfold sFld at h;split at h<;>try (cases h;done)
 rename_i c;have c:¬k=0:=λe=>by subst e;cases c
 have own:∀{W F H}{id v b:Nat},(evE E x).den=.pp (.o id) v b->(qg H (.o id) b).isSome=true->Agr o E G [id] F H->PQ P W o F H (.pp (.o id) (v+z) b):=λ{W F H id v b}A u a=>by
  refine step (p :=.pp (.o id) v b) A ?_ a;unfold L.fieldAddrP;rw[K];simp only;rw[O];simp only;rw[if_neg c];cases S:qg H (.o id) b with
  |none=>rw[S]at u;cases u
  |some cs=>rfl
 split at h
 ·rename_i d m;split at h<;>cases h;rename_i D R;obtain⟨_,n,N⟩:=zmd R;simp only[qd,TS.den,enc_cells,wc7]at N;refine SOk.now λW F H a=>?_;simp only[TS.den];refine PQ.ref (step (p :=.rp (jq d.t d.x)) (r :=.rp (jq D.t D.x++n)) (by rw[m];simp only[TS.den]) ?_ a) wbk;unfold L.fieldAddrP;rw[K];simp only;rw[O];simp only;rw[if_neg c,N]
 ·rename_i id C b m;split at h<;>try (cases h;done)
  rename_i g;have g:=wcj g;split at h<;>cases h
  ·rename_i t Q j;exact SOk.now λW F H a=>by simp only[TS.den];exact own (by rw[m];simp only[TS.den]) (zm0 (a.h id (by simp)) j (.inl ⟨_,_,rfl⟩) g) a
  ·rename_i t w Q j;exact SOk.now λW F H a=>by simp only[TS.den];exact own (by rw[m];simp only[TS.den]) (zm0 (a.h id (by simp)) j (.inr (.inl ⟨_,_,_,rfl⟩)) g) a
 ·rename_i id w i C b m;split at h<;>try (cases h;done)
  rename_i g;have g:=wcj g;split at h<;>cases h
  ·rename_i t Q j;exact SOk.now λW F H a=>by simp only[TS.den];rw[<- we0];exact own (by rw[m];simp only[TS.den]) (zm0 (a.h id (by simp)) j (.inl ⟨_,_,rfl⟩) g) a
  ·rename_i t y l j;exact SOk.now λW F H a=>by simp only[TS.den];rw[<- we0];exact own (by rw[m];simp only[TS.den]) (zm0 (a.h id (by simp)) j (.inr (.inr ⟨_,_,_,rfl⟩)) g) a
 ·cases h
def zmn:List TS->Nat->Option (TS×Nat)
 |[],_=>none
 |x::b,a=>match Nat.blt a (Za x)with
  |true=>some (x,a)
  |false=>zmn b (a-Za x)
theorem z7i:∀{xs:List TS}{off:Nat}{r:TS×Nat},zmn xs off=some r->∃a post,qd xs=a++r.1.den.cells++post/\a.length+r.2=off/\r.2<Za r.1
 |[],off,r,h=>by simp[zmn]at h
 |x::xs,off,r,h=>by
  simp only[zmn]at h;split at h
  ·rename_i b;cases h;refine⟨[],qd xs,by simp only[qd,wei],by simp,by simpa [wfk]using b⟩
  ·rename_i b;obtain⟨a,post,d,g,e⟩:=z7i h;refine⟨x.den.cells++a,post,by simp only[qd,d,wc6],?_,e⟩;have f:=zkf x;have:¬off<Za x:=by
    intro c;have:Nat.blt off (Za x)=true:=by simpa [wfk]using c
    rw[b]at this;cases this
   rw[wcu,f];omega
def zg9(o:Option TS):TS:=match o with
 |some s=>s
 |none => .dead
def sLd(ag:Bool)(k:Nat)(G:EG)(x:TS):Option SR:=match x with
 |.rd d=>match ldT ag k 0 [.v d]with
  |some s=>some (.now s [])
  |none=>none
 |.v ⟨.ref t,p⟩=>match Nat.ble k (wid t) && (ag ||Nat.beq k 1)with
  |true=>some (.dat t.D p (λy=>zg9 (ldT ag k 0 [.v ⟨t,y⟩])) [])
  |false=>none
 |.pt id e g=>match Nat.beq (G id).ver g with
  |true=>match (G id).b with
   |some (.box _ j)=>match ldT ag k e j with
    |some s=>some (.now s [id])
    |none=>none
   |some (.rowx _ _ j)=>match ldT ag k e j with
    |some s=>some (.now s [id])
    |none=>none
   |_=>none
  |false=>none
 |.elt id w i e g=>match Nat.beq (G id).ver g with
  |true=>match (G id).b with
   |some (.row _ t l)=>match Nat.beq w (wid t) && (Nat.ble (e+k) w && (ag ||Nat.beq k 1))with
    |true=>some (.dat t.D (atL l i) (λy=>zg9 (ldT ag k e [.v ⟨t,y⟩])) [id])
    |false=>none
   |some (.que _ t l)=>match Nat.beq w (wid t) && (Nat.ble (e+k) w && (ag ||Nat.beq k 1))with
    |true=>some (.dat t.D (atL l i) (λy=>zg9 (ldT ag k e [.v ⟨t,y⟩])) [id])
    |false=>none
   |some (.box _ j)=>match zmn j e with
    |some (.v ⟨.arr n t,a⟩,f)=>match Nat.beq w (wid t) && (Nat.ble (f+k) w && (ag ||Nat.beq k 1))with
     |true=>some (.dat t.D (atL a.l i) (λy=>zg9 (ldT ag k f [.v ⟨t,y⟩])) [id])
     |false=>none
    |_=>none
   |some (.rows _ m t l _ h)=>match Nat.beq w 1 && Nat.beq e 0 && Nat.beq k 1 && !ag with
    |true=>some (.dat (List t.D) (Kids.at ⟨t,m,l,h⟩ i) (λ_=> .kid id i (G id).cv) [id])
    |false=>none
   |_=>none
  |false=>none
 |.kel id p w i e v=>match zjw G id v with
  |some c=>match Nat.beq w (wid c.t) && (Nat.ble (e+k) w && (ag ||Nat.beq k 1))with
   |true=>some (.dat c.t.D (ja (c.at p) λy=>atL y i) (λy=>zg9 (ldT ag k e [.v ⟨c.t,y⟩])) [id])
   |false=>none
  |none=>none
 |_=>none
theorem jdu{ag:Bool}{k:Nat}{cs ds:List PV}{p:PV}(h:Y2 ag k cs=some p):Y2 ag k (cs++ds)=some p:=by
 unfold Y2 at h⊢;cases ag with
 |true=>
  simp only[if_true]at h⊢;split at h<;>cases h;rename_i a;rw[if_pos (by simp;omega),wfn a]
 |false=>
  simp at h⊢;rw[wcr (wcg.1 h).1];exact h
theorem z1m{ag:Bool}{k off:Nat}{t:Ty}{y:t.D}{cs rest:List PV}(b:cs=jq t y++rest)(g:∃p,Y2 ag k (cs.drop off)=some p):∃p,Y2 ag k (cs.drop off)=some p/\Ref p (zg9 (ldT ag k off [.v ⟨t,y⟩])).den:=by
 unfold zg9;split
 ·rename_i s i;obtain⟨⟨p,a,e⟩,d,f⟩:=zmd i;simp only[qd,TS.den,enc_cells,wc7]at a f;refine⟨p,?_,e⟩;rw[b];by_cases c:off<=(jq t y).length
  ·rw[List.drop_append_of_le_length c];exact jdu a
  ·rw[wdu (by omega)]at a;unfold Y2 at a;cases ag with
   |true=>
    simp only[if_true,wfb]at a;split at a
    ·rename_i j;have:k=0:=by omega
     subst this;cases a;unfold Y2;simp
    ·cases a
   |false=>simp at a
 ·obtain⟨p,h⟩:=g;exact⟨p,h,by simp only[TS.den];exact Ref.unk p⟩
theorem z2n{ag:Bool}{k:Nat}{cs:List PV}(h:k<=cs.length)(a:(ag ||Nat.beq k 1)=true):∃p,Y2 ag k cs=some p:=by
 unfold Y2;cases ag with
 |true=>simp only[if_true];rw[if_pos h];exact⟨_,rfl⟩
 |false=>
  have:k=1:=wcj (by simpa using a);subst this;cases cs with
  |nil=>simp at h
  |cons c cs=>exact⟨c,by simp⟩
theorem zwt{ag:Bool}{k off i:Nat}{t:Ty}{l:List t.D}{y:t.D}(c:l[i]?=some y)(g:off+k<=wid t)(f:(ag ||Nat.beq k 1)=true)(rest:List PV):∃p,Y2 ag k ((l.flatMap (jq t)++rest).drop (i*wid t+off))=some p/\Ref p (zg9 (ldT ag k off [.v ⟨t,y⟩])).den:=by
 obtain⟨j,h⟩:=zdo (jq t) (wid t) l (λx _=>qa t x) i y c;have a:(l.flatMap (jq t)).length=l.length*wid t:=J6 _ _ _ λx _=>qa t x;have d:=(wcg.1 c).1;have b:i*wid t+wid t<=l.length*wid t:=by
  have:(i+1)*wid t<=l.length*wid t:=wes _ d;rwa [wfw]at this
 have e:(l.flatMap (jq t)++rest).drop (i*wid t)=jq t y++(j++rest):=by
  rw[List.drop_append_of_le_length (by omega),h,wc6]
 rw[<- List.drop_drop,e];refine z1m rfl (z2n ?_ f);rw[wdw,wcu,qa];omega
theorem sLd_ok{t k:Nat}{ag:Bool}{x:Operand}{q:SR}(ho:o.op=.load t x)(O:asz P t=some (ag,k))(h:sLd ag k G (evE E x)=some q):SOk P o E G q:=by
 have Z:x∈o.op.operands:=by rw[ho];simp[Op.operands]
 have step:∀{rd W F H}{p r:PV},(evE E x).den=p->za0 P H t p=some r->Agr o E G rd F H->PQ P W o F H r:=λ{rd W F H p r}A K f=>by
  refine qp ?_;unfold Vg;rw[ho];simp only;rw[f.ev Z,A];exact K
 have own:∀{W F H}{id oo z:Nat}{cs:List PV}{s:TS},(evE E x).den=.pp (.o id) oo z->qg H (.o id) z=some cs->(∃p,Y2 ag k (cs.drop oo)=some p/\Ref p s.den)->Agr o E G [id] F H->PQ P W o F H s.den:=λ{W F H id oo z cs s}A K h3 f=>by
  obtain⟨p,hp,Y⟩:=h3;refine PQ.ref (step (p :=.pp (.o id) oo z) (r:=p) A ?_ f) Y;unfold za0;rw[O];simp only;rw[K];exact hp
 unfold sLd at h;split at h
 ·rename_i d B;split at h<;>cases h;rename_i s M;obtain⟨⟨p,A,K⟩,_⟩:=zmd M;simp only[qd,TS.den,enc_cells,wc7,List.drop_zero]at A;refine SOk.now λW F H f=>PQ.ref (step (p :=.rp (jq d.t d.x)) (r:=p) (by rw[B];simp only[TS.den]) ?_ f) K;unfold za0;rw[O];exact A
 ·rename_i m p B;split at h<;>cases h;rename_i g;simp only[wcl]at g;refine SOk.dat λy j W F H f=>?_;subst j;obtain⟨p,A,K⟩:=z1m (ag:=ag) (k:=k) (off:=0) (t:=m) (y:=y) (cs:=jq m y) (rest:=[]) (by simp) (z2n (by rw[List.drop_zero,qa];exact wd2 g.1) g.2);refine PQ.ref (step (p :=.rp (jq m y)) (r:=p) (by rw[B];simp only[TS.den];rfl) ?_ f) K;unfold za0;rw[O];exact A
 ·rename_i id off z B;split at h<;>try (cases h;done)
  rename_i I;have I:=wcj I;split at h<;>try (cases h;done)
  ·rename_i N xs u;split at h<;>cases h;rename_i s M;exact SOk.now λW F H f=>own (by rw[B];simp only[TS.den]) (J9 (f.h id (by simp)) u I) (zmd M).1 f
  ·rename_i N w xs u;split at h<;>cases h;rename_i s M;exact SOk.now λW F H f=>own (by rw[B];simp only[TS.den]) (Qk (f.h id (by simp)) u rfl I) (zmd M).1 f
 ·rename_i id w i off z B;split at h<;>try (cases h;done)
  rename_i I;have I:=wcj I;have told:∀{bd:BD}{m:Ty}{l:List m.D}{q:SR},(G id).b=some bd->(∀H,H (.o id)=v6 id (G id)->qg H (.o id) z=some (l.flatMap (jq m)))->(Nat.beq w (wid m) && (Nat.ble (off+k) w && (ag ||Nat.beq k 1)))=true->q=.dat m.D (atL l i) (λy=>zg9 (ldT ag k off [.v ⟨m,y⟩])) [id]->SOk P o E G q:=λ{bd m l q}u hl g e=>by
   subst e;simp only[wcl]at g;have e:=wcj g.1;have C:=wd2 g.2.1;subst e;refine SOk.dat λy j W F H f=>?_;obtain⟨h0,j⟩:=Zt j;refine own (oo:=i.toNat*wid m+off) (cs:=l.flatMap (jq m)) (by rw[B];simp only[TS.den]) (hl H (f.h id (by simp))) ?_ f;have:=zwt (ag:=ag) (k:=k) (off:=off) j C g.2.2 [];simpa using this
  split at h<;>try (cases h;done)
  ·rename_i N m l u;split at h<;>cases h;rename_i g;exact told u (λH T=>Qk T u rfl I) g rfl
  ·rename_i N m l u;split at h<;>cases h;rename_i g;exact told u (λH T=>zyv T u rfl I) g rfl
  ·rename_i N xs u;split at h<;>try (cases h;done)
   rename_i n m a L U;split at h<;>cases h;rename_i g;simp only[wcl]at g;have e:=wcj g.1;have C:=wd2 g.2.1;subst e;refine SOk.dat λy j W F H f=>?_;obtain⟨h0,j⟩:=Zt j;obtain⟨J,post,A,K,h3⟩:=z7i U;simp only at A K;refine own (oo:=i.toNat*wid m+off) (cs:=qd xs) (by rw[B];simp only[TS.den]) (J9 (f.h id (by simp)) u I) ?_ f;simp only[TS.den,enc_cells,jq]at A;have:=zwt (ag:=ag) (k:=k) (off:=L) j C g.2.2 post;rw[A,show i.toNat*wid m+off=J.length+(i.toNat*wid m+L) by omega,<- List.drop_drop,wc6,we1 rfl];exact this
  ·rename_i N it m l kv hh u;split at h<;>cases h;rename_i g;simp only[wcl,weg]at g;obtain⟨⟨⟨Q,R⟩,S⟩,e4⟩:=g;have Q:=wcj Q;have R:=wcj R;have S:=wcj S;subst Q;subst R;subst S;subst e4;refine SOk.dat λy j W F H f=>?_;obtain⟨h0,j,hi⟩:=wao j;simp only at j hi;refine own (oo:=i.toNat*1+0) (cs:=(List.range l.length).map (hh.cell id (G id).cv)) (by rw[B];simp only[TS.den]) (Qk (f.h id (by simp)) u rfl I) ⟨.ps (.c id i.toNat) (G id).cv,?_,by simp only[TS.den];exact Ref.refl _⟩ f;have V:=(wcg.1 j).1;unfold Y2;simp[V,Hole.cell,hi]
 ·rename_i id p w i off v B;split at h<;>try (cases h;done)
  rename_i c hk;split at h<;>cases h;rename_i g;simp only[wcl]at g;have e:=wcj g.1;have C:=wd2 g.2.1;subst e;refine SOk.dat λy j W F H f=>?_;obtain⟨r,Y,j⟩:=yb j;obtain⟨h0,j⟩:=Zt j;have u:=zgi hk Y (f.hn id (by simp));obtain⟨q,hq,X⟩:=zwt (ag:=ag) (k:=k) (off:=off) j C g.2.2 [];refine PQ.ref (step (p :=.pp (.c id p.toNat) (i.toNat*wid c.t+off) v) (r:=q) (by rw[B];simp only[TS.den]) ?_ f) X;unfold za0 qg;rw[O];simp only;rw[u];simp only[if_true];simpa using hq
 ·cases h
def z98(s:TS):Option (List TS):=match s with
 |.v ⟨.arr n t,a⟩=>some [.v ⟨.arr n t,a⟩]
 |s=>zdk s
theorem jei{s:TS}{xs:List TS}(h:z98 s=some xs):s.den=.agg (qd xs):=by
 unfold z98 at h;split at h
 ·cases h;simp only[TS.den,qd,wc7,enc_cells];rfl
 ·exact zgq h
def sFie(a k:Nat)(ag:Bool)(x:TS):Option SR:=match z98 x with
 |some b=>match ldT ag k a b with
  |some s=>some (.now s [])
  |none=>none
 |none=>none
theorem jnh{t f d e k:Nat}{ag:Bool}{x:Operand}{q:SR}(g:o.op=.field t x f)(l:fof P t f=some (d,e))(n:asz P e=some (ag,k))(h:sFie d k ag (evE E x)=some q):SOk P o E G q:=by
 have b:x∈o.op.operands:=by rw[g];simp[Op.operands]
 unfold sFie at h;split at h<;>try (cases h;done)
 rename_i r c;split at h<;>cases h;rename_i s m;obtain⟨⟨p,i,j⟩,_⟩:=zmd m;refine SOk.now λW F H a=>PQ.ref (qp ?_) j;unfold Vg;rw[g];simp only;rw[a.ev b,jei c];unfold z31;rw[l];simp only;unfold z1e;rw[n];exact i
def zmj(s:List UInt8)(z:Int):Option Int:=match decide (0<=z)with
 |true=>(s[z.toNat]?).map λb=>(b.toNat:Int)
 |false=>none
def jow(x i:TS):Option SR:=vu (zeu i) λz=>vu (Zh .str x) λs=>some (.vo (.int .u8) (zmj s z))
theorem jjf{t:TypeId}{x i:Operand}{q:SR}(f:o.op=.index t x i)(p:zc3 P t=true)(h:jow (evE E x) (evE E i)=some q):SOk P o E G q:=by
 have g:x∈o.op.operands:=by rw[f];simp[Op.operands]
 have d:i∈o.op.operands:=by rw[f];simp[Op.operands]
 obtain⟨z,hz,h⟩:=qb h;obtain⟨s,n,h⟩:=qb h;cases h;obtain⟨v,m⟩:=Ye hz;refine SOk.vo λr c W F H a=>qp ?_;unfold zmj at c;split at c<;>try (cases c;done)
 rename_i h0;have h0:=wcd h0;obtain⟨b,l,rfl⟩:=wcs.1 c;unfold Vg;rw[f];simp only;rw[a.ev g,a.ev d,Jc n,m];show zlr P t (.u (.string ⟨⟨s⟩⟩)) (.u (.int v z))=_;unfold zlr;simp only;rw[if_pos p,if_pos h0];have:(⟨⟨s⟩⟩:ByteArray)[z.toNat]?=some b:=by
  have e:=(wcg.1 l)
  obtain⟨j,k⟩:=e;have:z.toNat<(⟨⟨s⟩⟩:ByteArray).size:=j;rw[getElem?_pos (⟨⟨s⟩⟩:ByteArray) z.toNat this];exact congrArg some k
 rw[this];rfl
def bdL(d:Nat):Option TS->Option (Option Int)
 |none=>some none
 |some s=>match zeu s with
  |some z=>some (some z)
  |none=>none
def bdN(d:Nat):Option Int->Option Nat
 |none=>some d
 |some z=>match decide (0<=z)with
  |true=>some z.toNat
  |false=>none
def zk0{α:Type}(l:List α)(lo hi:Option Int):Option (List α):=match bdN 0 lo with
 |none=>none
 |some a=>match bdN l.length hi with
  |none=>none
  |some b=>match decide (a<=b) && decide (b<=l.length)with
   |true=>some ((l.take b).drop a)
   |false=>none
def sSli(es:Option Nat)(str:Bool)(x:TS)(lo hi:Option TS):Option SR:=vu (bdL 0 lo) λa=>vu (bdL 0 hi) λb=>match x with
 |.v ⟨.sl t,l⟩=>match oeq es (some (wid t))with
  |true=>some (.vo (.sl t) (zk0 l a b))
  |false=>none
 |.v ⟨.str,s⟩=>match str with
  |true=>some (.vo .str (zk0 s a b))
  |false=>none
 |_=>none
theorem z3r{d c:Nat}{lo:Option Operand}{F:PFrame}(b:∀x,lo=some x->evP F x=(evE E x).den){a:Option Int}(h:bdL d (lo.map (evE E))=some a):zhg c (lo.map (evP F))=bdN c a:=by
 cases lo with
 |none=>simp only[Option.map_none,bdL]at h;cases h;rfl
 |some x=>
  simp only[wc3,bdL]at h;split at h<;>cases h;rename_i z hz;obtain⟨k,e⟩:=Ye hz;simp only[wc3];rw[b x rfl,e];unfold zhg bdN;simp only;by_cases h0:0<=z
  ·rw[if_pos h0,wc9 h0]
  ·rw[if_neg h0,wcw h0]
theorem joa{t:TypeId}{x:Operand}{lo hi:Option Operand}{q:SR}(j:o.op=.slice t x lo hi none)(h:sSli (esz P t) (zc3 P t) (evE E x) (lo.map (evE E)) (hi.map (evE E))=some q):SOk P o E G q:=by
 have k:x∈o.op.operands:=by rw[j];simp[Op.operands]
 have i:∀y,lo=some y->y∈o.op.operands:=λy e=>by rw[j];subst e;simp[Op.operands]
 have g:∀y,hi=some y->y∈o.op.operands:=λy e=>by rw[j];subst e;simp[Op.operands]
 obtain⟨a,A,h⟩:=qb h;obtain⟨b,B,h⟩:=qb h;split at h
 ·rename_i C l z;split at h<;>try (cases h;done)
  rename_i p;cases h;have p:=zhc p;refine SOk.vo λr d W F H c=>qp ?_;unfold Vg;rw[j];simp only;rw[c.ev k,z];simp only[TS.den];rw[zht];unfold zqd;simp only;rw[z3r (E:=E) (λy e=>c.ev (i y e)) A,z3r (E:=E) (λy e=>c.ev (g y e)) B,wcv];unfold zk0 at d;split at d<;>try (cases d;done)
  rename_i n1 m;split at d<;>try (cases d;done)
  rename_i n2 n;split at d<;>cases d;rename_i f;simp only[wcl,wcy]at f;rw[m,n];simp only;rw[if_pos ⟨p,f.1,f.2⟩,zht,List.map_drop,List.map_take]
 ·rename_i s z;split at h<;>try (cases h;done)
  rename_i v;cases h;refine SOk.vo λr d W F H c=>qp ?_;unfold Vg;rw[j];simp only;rw[c.ev k,z];simp only[TS.den];show zqd P t (.u (.string ⟨⟨s⟩⟩)) _ _=_;unfold zqd;simp only;have w:(⟨⟨s⟩⟩:ByteArray).size=s.length:=rfl;rw[z3r (E:=E) (λy e=>c.ev (i y e)) A,z3r (E:=E) (λy e=>c.ev (g y e)) B,w];unfold zk0 at d;split at d<;>try (cases d;done)
  rename_i n1 m;split at d<;>try (cases d;done)
  rename_i n2 n;split at d<;>cases d;rename_i f;simp only[wcl,wcy]at f;rw[m,n];simp only;rw[if_pos ⟨v,f.1,f.2⟩];have:(⟨⟨s⟩⟩:ByteArray).extract n1 n2=⟨⟨(s.take n2).drop n1⟩⟩:=by
   apply ByteArray.ext;rw[ByteArray.data_extract];simp[List.extract_eq_take_drop,List.drop_take]
  rw[this];rfl
 ·cases h
end
def BD.celled:BD->Bool
 |.obj _ _=>false
 |.mrows _ _ _ _ _ _=>false
 |.iter _ _ _ _=>false
 |_=>true
def z00(G:EG)(id ver:Nat):Bool:=match Nat.beq (G id).ver ver with
 |true=>match (G id).b with
  |some a=>a.celled
  |none=>false
 |false=>false
def rowB(G:EG)(id ver:Nat):Bool:=match Nat.beq (G id).ver ver with
 |true=>match (G id).b with
  |some (.row _ _ _)=>true
  |some (.rowx _ _ _)=>true
  |_=>false
 |false=>false
def ownB(G:EG)(id ver:Nat):Bool:=match Nat.beq (G id).ver ver with
 |true=>(G id).b.isSome
 |false=>false
mutual
def okT(G:EG):TS->Bool
 |.v d=>zda d.t
 |.c (.agg b)=>b.toList.all Value.oneCell'
 |.c v=>v.oneCell'
 |.own id a=>ownB G id a
 |.q id _ _ a=>rowB G id a
 |.pt id _ a=>z00 G id a
 |.elt id _ _ _ a=>z00 G id a
 |.rd _=>true
 |.fn _ _ _=>true
 |.agg e=>jbr G e
 |_=>false
def jbr(G:EG):List TS->Bool
 |[]=>true
 |x::a=>okT G x && jbr G a
end
mutual
def zkx:TS->List Nat
 |.own id _=>[id]
 |.q id _ _ _=>[id]
 |.pt id _ _=>[id]
 |.elt id _ _ _ _=>[id]
 |.agg a=>zi1 a
 |_=>[]
def zi1:List TS->List Nat
 |[]=>[]
 |x::a=>zkx x++zi1 a
end
section
variable{P:Program}{o:Oper}{E:EF}{G:EG}{rd:List Nat}{F:PFrame}{H:PHeap}{W:Env}
theorem jd1{id ver:Nat}(h:rowB G id ver=true)(c:H (.o id)=v6 id (G id)):(Jf H (.o id) ver).isSome=true:=by
 unfold rowB at h;split at h<;>try (cases h;done)
 rename_i a;have a:=wcj a;split at h<;>try (cases h;done)
 ·rename_i b;rw[zl c b rfl a];rfl
 ·rename_i b;rw[zl c b rfl a];rfl
theorem jfl{id ver:Nat}(h:ownB G id ver=true)(a:H (.o id)=v6 id (G id)):((H (.o id)).body.isSome && Nat.beq (H (.o id)).ver ver)=true:=by
 unfold ownB at h;split at h<;>try (cases h;done)
 rename_i b;rw[a];simp only[v6,Option.isSome_map,h,b,Bool.and_self]
theorem zhw{id ver:Nat}(h:z00 G id ver=true)(b:H (.o id)=v6 id (G id)):(qg H (.o id) ver).isSome=true:=by
 unfold z00 at h;split at h<;>try (cases h;done)
 rename_i d;split at h<;>try (cases h;done)
 rename_i a c;unfold qg;rw[b];simp only[v6,c,wc3,wcj d,if_true];cases a<;>first|rfl|cases h
mutual
theorem z6k:∀(s:TS),okT G s=true->(∀id∈zkx s,H (.o id)=v6 id (G id))->∀c∈s.den.cells,Jm H c=true
 |.v d,h,g,c,e=>by
  simp only[okT]at h;simp only[TS.den,enc_cells]at e;exact zd6 _ _ H h c e
 |.c v,h,g,c,e=>by
  simp only[TS.den]at e;cases v with
  |agg p=>
   simp only[okT,wdx]at h;simp only[ofV,PV.cells]at e;obtain⟨u,m,rfl⟩:=wcz.1 e;exact h u m
  |_=>simp only[okT]at h;simp only[ofV,PV.cells,wci]at e;subst e;exact h
 |.own id j,h,g,c,e=>by
  simp only[okT]at h;simp only[TS.den,PV.cells,wci]at e;subst e;exact jfl h (g id (by simp only[zkx,wci]))
 |.q id k l j,h,g,c,e=>by
  simp only[okT]at h;simp only[TS.den,PV.cells,wci]at e;subst e;exact jd1 h (g id (by simp only[zkx,wci]))
 |.pt id l j,h,g,c,e=>by
  simp only[okT]at h;simp only[TS.den,PV.cells,wci]at e;subst e;exact zhw h (g id (by simp only[zkx,wci]))
 |.elt id k i l j,h,g,c,e=>by
  simp only[okT]at h;simp only[TS.den,PV.cells,wci]at e;subst e;exact zhw h (g id (by simp only[zkx,wci]))
 |.rd d,h,g,c,e=>by simp only[TS.den,PV.cells,wci]at e;subst e;rfl
 |.fn f a b,h,g,c,e=>by simp only[TS.den,PV.cells,wci]at e;subst e;rfl
 |.agg n,h,g,c,e=>by
  simp only[okT]at h;simp only[TS.den,PV.cells]at e;exact z09 n h (by simpa only [zkx]using g) c e
 |.kid _ _ _,h,g,c,e=>by simp[okT]at h
 |.kel _ _ _ _ _ _,h,g,c,e=>by simp[okT]at h
 |.dead,h,g,c,e=>by simp[okT]at h
 |.tup _,h,g,c,e=>by simp[okT]at h
theorem z09:∀(xs:List TS),jbr G xs=true->(∀id∈zi1 xs,H (.o id)=v6 id (G id))->∀c∈qd xs,Jm H c=true
 |[],h,d,c,a=>by simp[qd]at a
 |x::xs,h,d,c,a=>by
  simp only[jbr,wcl]at h;simp only[qd,wco]at a;simp only[zi1,wco]at d;rcases a with a|a
  ·exact z6k x h.1 (λid b=>d id (.inl b)) c a
  ·exact z09 xs h.2 (λid b=>d id (.inr b)) c a
end
theorem okC_of{p:PV}(h:∀c∈p.cells,Jm H c=true)(a:(∃cs,p=.agg cs)\/p.cells=[p]):okC H p=true:=by
 rcases a with⟨cs,rfl⟩|a
 ·simp only[okC,wdx];exact h
 ·have:=h p (by rw[a];simp);cases p with
  |agg cs=>simp[Jm]at this
  |_=>exact this
theorem zft{s:TS}(h:okT G s=true)(hi:∀id∈zkx s,H (.o id)=v6 id (G id)):okC H s.den=true:=by
 refine okC_of (z6k s h hi) ?_;cases a:Yh s
 ·exact .inr (Z6 a)
 ·exact .inl ⟨_,zer a⟩
abbrev ZT:=TypeId->Option (List TS)
def zgc(P:Program)(zt:ZT):Prop:=∀t a,zt t=some a->∃us,zw9 P t=some us/\us.all Value.oneCell'=true/\RefL (us.map .u) (qd a)
def jkw(off k:Nat)(s:TS)(xs:List TS):Option (List TS):=match Y8 512 off xs with
 |none=>none
 |some q=>match Y8 512 k q.2 with
  |none=>none
  |some r=>match Nat.beq (Za s) k with
   |true=>some (q.1++s::r.2)
   |false=>none
theorem z20{off k:Nat}{s:TS}{xs ys:List TS}(h:jkw off k s xs=some ys):qd ys=setMany (qd xs) off s.den.cells/\off+k<=(qd xs).length/\s.den.cells.length=k:=by
 unfold jkw at h;split at h<;>try (cases h;done)
 rename_i q f;split at h<;>try (cases h;done)
 rename_i r g;split at h<;>cases h;rename_i a;have a:s.den.cells.length=k:=by rw[zkf];exact wcj a
 obtain⟨c,b⟩:=Q3 _ _ _ _ f;obtain⟨d,e⟩:=Q3 _ _ _ _ g;refine⟨?_,?_,a⟩
 ·unfold setMany;rw[zrw,<- c,<- d];simp only[qd];rw[wfh b,<- wc6,a];congr 1;rw[<- wc6,we1 (by rw[wcu,b,e])]
 ·rw[<- c,<- d];simp only[wcu,b,e];omega
def z6r(places:List (Nat×Nat)):List TS->List (Nat×TS)->Option (List TS)
 |xs,[]=>some xs
 |xs,(i,s)::r=>match places[i]? with
  |none=>none
  |some a=>match jkw a.1 a.2 s xs with
   |some b=>z6r places b r
   |none=>none
theorem RefL.setMany{cs ds:List PV}(h:RefL cs ds)(off:Nat)(ps:List PV):RefL (setMany cs off ps) (setMany ds off ps):=RefL.append (RefL.append (h.take off) (RefL.refl ps)) (h.drop _)
theorem z8m{places:List (Nat×Nat)}:∀(a:List (Nat×TS))(xs ys:List TS)(cs:List PV),z6r places xs a=some ys->RefL cs (qd xs)->(∀p∈a,okC H p.2.den=true)->∃r,zii H places cs (a.map λp=>(p.1,p.2.den))=some r/\RefL r (qd ys)
 |[],xs,ys,cs,h,b,_=>by simp only[z6r]at h;cases h;exact⟨cs,rfl,b⟩
 |(i,s)::a,xs,ys,cs,h,b,f=>by
  simp only[z6r]at h;split at h<;>try (cases h;done)
  rename_i g c;split at h<;>try (cases h;done)
  rename_i q hz;obtain⟨k,l,m⟩:=z20 hz;obtain⟨r,d,e⟩:=z8m a q ys (setMany cs g.1 s.den.cells) h (by rw[k];exact b.setMany _ _) λp n=>f p (by simp[n]);refine⟨r,?_,e⟩;obtain⟨o,j⟩:=g;simp only[wc4,zii,c];rw[if_pos ⟨m,by rw[b.1];exact l,f (i,s) (by simp)⟩];exact d
def znd(P:Program)(t:TypeId):Option (List (Nat×Nat)):=match P.underlying t with
 |some (.struct a)=>a.toList.mapM λf=>(P.info? f.type).map λi=>(f.offset,i.size)
 |some (.array m e)=>(P.info? e).map λi=>(List.range m).map λj=>(j*i.size,i.size)
 |_=>none
theorem jn2{t:TypeId}{us:List Value}{l:List (Nat×Nat)}(hz:zw9 P t=some us)(a:znd P t=some l):jix P t=some (us.map .u,l):=by
 obtain⟨z,c,rfl⟩:=wcs.1 hz;unfold jix;rw[c];simp only;unfold znd at a;split at a
 ·rename_i f b;rw[b];simp only;rw[a];rfl
 ·rename_i m e b;rw[b];simp only;obtain⟨i,d,rfl⟩:=wcs.1 a;rw[d];rfl
 ·cases a
def okPs(G:EG)(ps:List (Nat×TS)):Bool:=ps.all λp=>okT G p.2
def idsPs(ps:List (Nat×TS)):List Nat:=ps.flatMap λp=>zkx p.2
theorem jgv(xs:List TS):(zct true xs).den=.agg (qd xs):=by
 unfold zct;simp only;split
 ·rename_i x;split
  ·rename_i a;simp only[qd,wc7];exact zer a
  ·simp only[TS.den]
 ·simp only[TS.den]
def aggA(a:Bool)(xs:List TS):TS:=match a with
 |true=>zct true xs
 |false => .agg xs
theorem jii(a:Bool)(xs:List TS):(aggA a xs).den=.agg (qd xs):=by
 cases a
 ·simp only[aggA,TS.den]
 ·exact jgv xs
def sBld(zt:ZT)(a:Bool)(places:Option (List (Nat×Nat)))(t:TypeId)(G:EG)(ps:List (Nat×TS)):Option SR:=match zt t with
 |none=>none
 |some b=>match places with
  |none=>none
  |some l=>match okPs G ps with
   |true=>match z6r l b ps with
    |some c=>some (.now (aggA a c) (idsPs ps))
    |none=>none
   |false=>none
theorem jmi{zt:ZT}{z:Bool}(y:zgc P zt){t:TypeId}{a:Array (Nat×Operand)}{q:SR}(A:o.op=.build t a)(h:sBld zt z (znd P t) t G (a.toList.map λx=>(x.1,evE E x.2))=some q):SOk P o E G q:=by
 have s:∀x∈a.toList,x.2∈o.op.operands:=λx n=>by
  rw[A];simp only[Op.operands,List.mem_toArray,wcz];exact⟨x,n,rfl⟩
 unfold sBld at h;split at h<;>try (cases h;done)
 rename_i D v;split at h<;>try (cases h;done)
 rename_i l C;split at h<;>try (cases h;done)
 rename_i f;split at h<;>cases h;rename_i I w;obtain⟨us,j,k,m⟩:=y t D v;refine SOk.now λW F H b=>?_;have c:∀p∈(a.toList.map λx=>(x.1,evE E x.2)),okC H p.2.den=true:=λp B=>by
  refine zft (wdx.1 f p B) λid d=>b.h id ?_;exact wds.2 ⟨p,B,d⟩
 obtain⟨r,g,i⟩:=z8m (H:=H) _ _ _ _ w m c;refine PQ.ref (p :=.agg r) (qp ?_) (by rw[jii];exact Ref.agg i);unfold Vg;rw[A];simp only;have e:(a.toList.map λx=>(x.1,evP F x.2))=(a.toList.map λx=>(x.1,evE E x.2)).map λp=>(p.1,p.2.den):=by
  rw[wd8];exact weo λx n=>by simp only[Function.comp];rw[b.ev (s x n)]
 rw[e];unfold z27;rw[jn2 j C];simp only;have hz:(us.map PV.u).all (Jm H)=true:=by
  rw[List.all_map];exact k
 rw[if_pos hz,g];rfl
theorem jme{f:Fn}{a b:Array Operand}(d:o.op=.makeFunc f a b):SOk P o E G (.now (.fn f (a.toList.map (evE E)) (b.toList.map (evE E))) []):=SOk.now λW F H c=>by
 refine qp ?_;unfold Vg;rw[d];simp only[TS.den];have g:a.toList.map (evP F)=yo (a.toList.map (evE E)):=by
  rw[zep,wd8];exact weo λx e=>c.ev (by rw[d];simp only[Op.operands,Array.mem_append];exact .inl (by simpa using e))
 have h:b.toList.map (evP F)=yo (b.toList.map (evE E)):=by
  rw[zep,wd8];exact weo λx e=>c.ev (by rw[d];simp only[Op.operands,Array.mem_append];exact .inr (by simpa using e))
 rw[g,h]
def jkx(G:EG)(x:TS):Option SR:=match x with
 |.rd d=>some (.now (.rd d) [])
 |.fn (.func g) a b=>some (.now (.fn (.func g) a b) [])
 |.pt id e c=>match z00 G id c with
  |true=>some (.now (.pt id e c) [id])
  |false=>none
 |.v ⟨.ref t,f⟩=>some (.dat t.D f (λy=> .rd ⟨t,y⟩) [])
 |_=>none
theorem jk1{x:Operand}{q:SR}(j:o.op=.nilCheck x)(h:jkx G (evE E x)=some q):SOk P o E G q:=by
 have f:x∈o.op.operands:=by rw[j];simp[Op.operands]
 have step:∀{rd W F H}{p r:PV},(evE E x).den=p->jmh H p=some r->Agr o E G rd F H->PQ P W o F H r:=λ{rd W F H p r}k l c=>by
  refine qp ?_;unfold Vg;rw[j];simp only;rw[c.ev f,k];exact l
 unfold jkx at h;split at h
 ·rename_i d e;cases h;exact SOk.now λW F H c=>step (by rw[e]) (by simp only[TS.den];rfl) c
 ·rename_i g a b e;cases h;exact SOk.now λW F H c=>step (by rw[e]) (by simp only[TS.den];rfl) c
 ·rename_i id u i e;split at h<;>cases h;rename_i n;refine SOk.now λW F H c=>step (by rw[e]) ?_ c;simp only[TS.den,jmh];cases m:qg H (.o id) i with
  |none=>have:=zhw n (c.h id (by simp));rw[m]at this;cases this
  |some cs=>rfl
 ·rename_i t v e;cases h;refine SOk.dat λy s W F H c=>?_;subst s;refine step (by rw[e]) ?_ c;simp only[TS.den];rfl
 ·cases h
def jg6{α:Type}(l:List α):Option Bool:=match l with
 |[]=>none
 |_=>some false
def znq(a:BinOp)(b:Bool):Option Bool:=match a with
 |.eql=>some b
 |.neq=>some (!b)
 |_=>none
def jhi(bd:Bool)(a:BinOp)(G:EG)(x:TS):Option SR:=match x with
 |.rd _=>match znq a false with
  |some b=>some (.now (.c (.bool b)) [])
  |none=>none
 |.c (.pointer none)=>match znq a true with
  |some b=>some (.now (.c (.bool b)) [])
  |none=>none
 |.pt id _ d=>match z00 G id d with
  |true=>match znq a false with
   |some b=>some (.now (.c (.bool b)) [id])
   |none=>none
  |false=>none
 |.v ⟨.ref _,p⟩=>match znq a p.isNone with
  |some b=>some (.vx bd .bool b)
  |none=>none
 |_=>none
def jhz(a:BinOp)(x:TS):Option SR:=match x with
 |.c (.slice none _ _)=>match znq a true with
  |some b=>some (.now (.c (.bool b)) [])
  |none=>none
 |.v ⟨.sl _,l⟩=>match a with
  |.eql=>some (.vo .bool (jg6 l))
  |.neq=>some (.vo .bool ((jg6 l).map λb=>!b))
  |_=>none
 |_=>none
theorem jcp{a:BinOp}{b c:Bool}(h:znq a b=some c):zx1 a (some b)=some (.u (.bool c)):=by
 unfold znq at h;split at h<;>cases h<;>rfl
theorem jk9{bd:Bool}{k:BinOp}{t z:Nat}{x:Operand}{q:SR}(l:o.op=.binOp k t x (.const (.pointer none)) z)(w:jc2 P t=true)(h:jhi bd k G (evE E x)=some q):SOk P o E G q:=by
 have i:x∈o.op.operands:=by rw[l];simp[Op.operands]
 have step:∀{rd W F H}{p:PV}{b c:Bool},(evE E x).den=p->zpb H p=some b->znq k b=some c->Agr o E G rd F H->PQ P W o F H (.u (.bool c)):=λ{rd W F H p b c}m n r a=>by
  refine qp ?_;unfold Vg;rw[l];simp only;unfold jfd;simp only;rw[if_pos w,a.ev i,m,n];exact jcp r
 unfold jhi at h;split at h
 ·rename_i d f;split at h<;>cases h;rename_i b e;exact SOk.now λW F H a=>(step (p :=.rp (jq d.t d.x)) (by rw[f];simp only[TS.den]) rfl e a:PQ P W o F H (.u (.bool b)))
 ·rename_i f;split at h<;>cases h;rename_i b e;exact SOk.now λW F H a=>(step (p :=.u (.pointer none)) (by rw[f];simp only[TS.den];rfl) rfl e a:PQ P W o F H (.u (.bool b)))
 ·rename_i id j g f;split at h<;>try (cases h;done)
  rename_i v;split at h<;>cases h;rename_i b e;refine SOk.now λW F H a=>(step (p :=.pp (.o id) j g) (by rw[f];simp only[TS.den]) ?_ e a:PQ P W o F H (.u (.bool b)))
  simp only[zpb];cases s:qg H (.o id) g with
  |none=>have:=zhw v (a.h id (by simp));rw[s]at this;cases this
  |some cs=>rfl
 ·rename_i A p f;split at h<;>cases h;rename_i b e;refine SOk.vx λW F H a=>?_;cases p with
  |none=>exact step (p :=.u (.pointer none)) (by rw[f];simp only[TS.den];rfl) rfl e a
  |some y=>exact step (p :=.rp (jq A y)) (by rw[f];simp only[TS.den];rfl) rfl e a
 ·cases h
theorem jh3{i:BinOp}{t z:Nat}{x:Operand}{q:SR}(j:o.op=.binOp i t x (.const (.slice none 0 0)) z)(w:zak P t=true)(h:jhz i (evE E x)=some q):SOk P o E G q:=by
 have g:x∈o.op.operands:=by rw[j];simp[Op.operands]
 have step:∀{rd W F H}{p:PV}{b c:Bool},(evE E x).den=p->zvk H p=some b->znq i b=some c->Agr o E G rd F H->PQ P W o F H (.u (.bool c)):=λ{rd W F H p b c}k m s a=>by
  refine qp ?_;unfold Vg;rw[j];simp only;unfold jfd;simp only;rw[if_pos w,a.ev g,k,m];exact jcp s
 unfold jhz at h;split at h
 ·rename_i n c e;split at h<;>cases h;rename_i b v;exact SOk.now λW F H a=>(step (p :=.u (.slice none n c)) (by rw[e];simp only[TS.den];rfl) rfl v a:PQ P W o F H (.u (.bool b)))
 ·rename_i f l e;split at h<;>cases h
  ·refine SOk.vo λr d W F H a=>?_;cases l with
   |nil=>cases d
   |cons y l=>cases d;exact step (p :=.sl (wid f) ((y::l).map (enc f))) (by rw[e];simp only[TS.den];rfl) rfl rfl a
  ·refine SOk.vo λr d W F H a=>?_;cases l with
   |nil=>cases d
   |cons y l=>cases d;exact step (p :=.sl (wid f) ((y::l).map (enc f))) (by rw[e];simp only[TS.den];rfl) rfl rfl a
 ·cases h
theorem jn3{d:Nat}{t:TypeId}{A B:Array TypeId}{C:Bool}(a:P.underlying t=some (.func A B C))(f:Fn)(b vb:Array Value)(w:World):(Op.equalIn (d+1) t (.func f b vb) .nilFunc).run P w=.ok false w:=by
 simp[Op.equalIn,run_underlying a]
theorem jnc{d:Nat}{t:TypeId}{A B:Array TypeId}{C:Bool}(a:P.underlying t=some (.func A B C))(w:World):(Op.equalIn (d+1) t .nilFunc .nilFunc).run P w=.ok true w:=by
 simp[Op.equalIn,run_underlying a]
theorem z6i{a:BinOp}{t:TypeId}{u v:Value}{b c:Bool}{w:World}(f:∀x y,(eqGuard a t x y u v).run P w=.ok () w)(e:(Op.equal t u v).run P w=.ok b w)(d:znq a b=some c)(g:binOp .eql t u v=(do pure (.bool (<- Op.equal t u v))))(h:binOp .neq t u v=(do pure (.bool !(<- Op.equal t u v))))(x y:Operand):
  (do eqGuard a t x y u v;binOp a t u v:Sem Value).run P w=.ok (.bool c) w:=by
 unfold znq at d;split at d<;>cases d
 ·simp[Sem.run_bind,f,g,e]
 ·simp[Sem.run_bind,f,h,e]
theorem wbw{h:BinOp}{t D:TypeId}{x:Operand}{b c:Bool}(n:o.op=.binOp h t x (.const .nilFunc) D){A B:Array TypeId}{C:Bool}(p:P.underlying t=some (.func A B C))(r:(∃f a d,evP F x=.fn f a d/\b=false)\/(evP F x=.u .nilFunc/\b=true))(m:znq h b=some c):PQ P W o F H (.u (.bool c)):=waf λV g w E q=>by
 have i:=q x (by rw[n];simp[Op.operands]);have s:(b=false/\∃f j vb,g.eval x=.func f j vb)\/(b=true/\g.eval x=.nilFunc):=by
  rcases r with⟨f,a,d,e,rfl⟩|⟨e,rfl⟩
  ·rw[e]at i;generalize g.eval x=v at i;cases i with
   |fn _ _ _ j vb=>exact .inl ⟨rfl,f,j,vb,rfl⟩
  ·rw[e]at i;generalize g.eval x=v at i;cases i;exact .inr ⟨rfl,rfl⟩
 refine⟨.bool c,?_,.u _⟩;have z:g.eval (.const .nilFunc)=.nilFunc:=rfl;have k:execOp g.eval o=Next.value <$> (do eqGuard h t x (.const .nilFunc) (g.eval x) .nilFunc;binOp h t (g.eval x) .nilFunc:Sem Value):=by
  unfold execOp;rw[n];simp[z]
 rw[k];have l:(do eqGuard h t x (.const .nilFunc) (g.eval x) .nilFunc;binOp h t (g.eval x) .nilFunc:Sem Value).run P w=.ok (.bool c) w:=by
  rcases s with⟨rfl,f,j,vb,e⟩|⟨rfl,e⟩
  ·rw[e];exact z6i (λx y=>by cases h<;>rfl) (jn3 (d:=9999) p f j vb w) m rfl rfl x _
  ·rw[e];exact z6i (λx y=>by cases h<;>rfl) (jnc (d:=9999) p w) m rfl rfl x _
 rw[Sem.run_map,l];rfl
end
structure BRef(bd bd':PBody):Prop where
 is:∀w m v vs,bd.Is w m v vs->bd'.Is w m v vs
 cs:RefL bd.cs bd'.cs
theorem BRef.row{t:TypeId}{k n:Nat}{cs ds:List PV}(h:RefL cs ds):BRef (.row t k n cs) (.row t k n ds):=⟨λ_ _ _ _ h=>h,h⟩
theorem BRef.box{t:TypeId}{cs ds:List PV}(h:RefL cs ds):BRef (.box t cs) (.box t ds):=⟨λ_ _ _ _ h=>h,h⟩
section
variable{P:Program}{o:Oper}{E:EF}{G:EG}{rd:List Nat}{F:PFrame}{H:PHeap}{W:Env}{n:Nat}
theorem wbv{V:Nm->Value}{a:Act}{w:World}{id:Nm}{ver:Nat}{bd bd':PBody}(m:BRef bd bd')(o:Rel P W n F (H.set id ⟨ver,some bd⟩) V a w):Rel P W n F (H.set id ⟨ver,some bd'⟩) V a w:=by
 have k:=o.heap;have l:∀i,((H.set id ⟨ver,some bd⟩) i).ver=((H.set id ⟨ver,some bd'⟩) i).ver/\((H.set id ⟨ver,some bd⟩) i).body.isSome=((H.set id ⟨ver,some bd'⟩) i).body.isSome:=λi=>by
  unfold PHeap.set;by_cases e:i=id<;>simp[e]
 have q:∀{p v},Rp W.Z (H.set id ⟨ver,some bd⟩) V w p v->Rp W.Z (H.set id ⟨ver,some bd'⟩) V w p v:=λh=>
  h.mono (λb m r=>⟨λhz=>by
   rcases hz with hz|⟨i,c,d⟩
   ·exact m (.inl hz)
   ·exact m (.inr ⟨i,by rw[(l i).2];exact c,d⟩),r,rfl⟩) (wcq _) (λi=>by rw[(l i).1];exact wcq _) (λi ver _ c d=>⟨by rw[(l i).2];exact c,by rw[(l i).1];exact d,rfl⟩)
 refine⟨⟨k.below,λi u f=>?_,λi=>q (k.ghost i),λi j g c d=>k.apart i j g (by rw[(l i).2];exact c) (by rw[(l j).2];exact d),k.zlt,λi b c=>k.nz i b (by rw[(l i).2];exact c)⟩,o.size,o.defers,λt=>q (o.slot t)⟩;by_cases e:i=id
 ·subst e;simp only[PHeap.set,if_true,wdn]at f;subst f;obtain⟨s,c,d⟩:=k.body i bd (by simp[PHeap.set]);exact⟨s,m.is _ _ _ _ c,m.cs.rpL (d.mono λp v=>q)⟩
 ·obtain⟨s,c,d⟩:=k.body i u (by simpa [PHeap.set,e]using f);exact⟨s,c,d.mono λp v=>q⟩
theorem waq{p0 f:PV}{id:Nm}{ver:Nat}{bd bd':PBody}(k:BRef bd bd')(l:Ref p0 f)(r:Y4 n o)(h:PE P W n o F H (λp c=>p=p0/\c=H.set id ⟨ver,some bd⟩)):PE P W n o F H (λp c=>p=f/\c=H.set id ⟨ver,some bd'⟩):=λV a w m=>
 Oper.wp_mono (λq s⟨p,c,g,⟨i,j⟩,d⟩=>by
  subst i;subst j;have:=wbv k d;refine⟨f,_,g,⟨rfl,rfl⟩,this.heap,this.size,this.defers,λt=>?_⟩;have b:=this.slot t;unfold PFrame.put at b⊢;split
  ·rename_i e;rw[if_pos e]at b;exact l _ _ _ _ _ b
  ·rename_i e;rw[if_neg e]at b;exact b) (h V a w m)
theorem wbm{F':PFrame}{p:PV}(h:PQ P W o F' H p)(d:∀t,Operand.tmp t∈o.op.operands->Ref (F t) (F' t)):PQ P W o F H p:=λV a w c e=>
 h V a w c λt b=>d t b _ _ _ _ _ (e t b)
def zzz(ty:Ty)(E:EF)(F:PFrame):PFrame:=λt=>match toT ty (E t)with
 |some v=>enc ty v
 |none=>F t
theorem z7g{ty:Ty}(a:Agr o E G rd F H):∀t,Operand.tmp t∈o.op.operands->Ref (F t) (zzz ty E F t):=λt b=>by
 unfold zzz;split
 ·rename_i v c;rw[a.f t b];exact(zbt _ _ _ c).2
 ·exact Ref.refl _
def z1t(ty:Ty)(E:EF):Operand->Option ty.D
 |.tmp t=>toT ty (E t)
 |_=>none
theorem zmr{ty:Ty}{x:Operand}{v:ty.D}(h:z1t ty E x=some v):evP (zzz ty E F) x=enc ty v:=by
 unfold z1t at h;split at h
 ·simp only[evP,zzz,h]
 ·cases h
def zkn:(t:Ty)->t.D->Option (List Value)
 |.int k,z=>some [.int k z]
 |.bool,b=>some [.bool b]
 |.str,s=>some [.string ⟨⟨s⟩⟩]
 |.nil,_=>some []
 |.cons a r,x=>match zkn a x.1 with
  |none=>none
  |some l=>match zkn r x.2 with
   |none=>none
   |some m=>some (l++m)
 |.st r,x=>zkn r x
 |_,_=>none
theorem zni:∀(t:Ty)(x:t.D)(l:List Value),zkn t x=some l->jq t x=l.map .u
 |.int _,_,l,h=>by simp only[zkn]at h;cases h;rfl
 |.bool,_,l,h=>by simp only[zkn]at h;cases h;rfl
 |.str,_,l,h=>by simp only[zkn]at h;cases h;rfl
 |.nil,_,l,h=>by simp only[zkn]at h;cases h;rfl
 |.cons a r,x,l,h=>by
  simp only[zkn]at h;split at h<;>try (cases h;done)
  rename_i d b;split at h<;>cases h;rename_i e c;simp only[jq,zni a _ _ b,zni r _ _ c,wdb]
 |.st r,x,l,h=>by simp only[zkn]at h;simp only[jq];exact zni r x l h
 |.sl _,_,l,h=>by simp[zkn]at h
 |.ref _,_,l,h=>by simp[zkn]at h
 |.arr _ _,_,l,h=>by simp[zkn]at h
 |.tup _,_,l,h=>by simp[zkn]at h
def zzq(l:List Bool):Bool:=l.all λb=>b
def jmw(a:BinOp)(b:Bool):Option Bool:=match a with
 |.eql=>some b
 |.neq=>some (!b)
 |_=>none
def sEqS(bd:Bool)(es:Array Value->Array Value->Option (List Bool))(d:Bool)(e:BinOp)(r:Ty)(E:EF)(x y:Operand):Option SR:=match d with
 |true=>none
 |false=>vu (z1t (.st r) E x) λa=>vu (z1t (.st r) E y) λb=>vu (zkn (.st r) a) λf=>vu (zkn (.st r) b) λg=>vu (es f.toArray g.toArray) λl=>vu (jmw e (zzq l)) λc=>some (.vx bd .bool c)
theorem zff(l:List Value):(l.map PV.u).mapM z01=some l:=by
 induction l with
 |nil=>rfl
 |cons v l a=>rw[wc4,we6,a];rfl
theorem jmz{bd:Bool}{B:BinOp}{r:Ty}{t M:Nat}{x y:Operand}{q:SR}{d:Tmp}(g:o.op=.binOp B t x y M)(h:sEqS bd (eqS P t) (P.eqGuardType P.depth t) B r E x y=some q):SOk P o E G q:=by
 unfold sEqS at h;split at h
 ·cases h
 rename_i z;obtain⟨a,I,h⟩:=qb h;obtain⟨b,K,h⟩:=qb h;obtain⟨e,m,h⟩:=qb h;obtain⟨f,n,h⟩:=qb h;obtain⟨l,L,h⟩:=qb h;obtain⟨c,k,h⟩:=qb h;cases h;refine SOk.vx λW F H j=>?_;refine wbm (F':=zzz (.st r) E F) (waf λV N w Q A=>?_) (z7g j);have C:evP (zzz (.st r) E F) x=.agg (e.map .u):=by rw[zmr I];unfold enc mkV;simp only[Yc];rw[zni _ _ _ m]
 have D:evP (zzz (.st r) E F) y=.agg (f.map .u):=by rw[zmr K];unfold enc mkV;simp only[Yc];rw[zni _ _ _ n]
 have p:=(A x (by rw[g];simp[Op.operands])).val2 (u :=.agg e.toArray) (by rw[C];simp only[PV.val2,zff];rfl);have s:=(A y (by rw[g];simp[Op.operands])).val2 (u :=.agg f.toArray) (by rw[D];simp only[PV.val2,zff];rfl);have v:(Op.equal t (.agg e.toArray) (.agg f.toArray)).run P w=.ok (l.all id) w:=jdo L w 9998;have O:zzq l=l.all id:=rfl;unfold jmw at k;split at k<;>cases k
 ·have i:=run_eqGuard_agg (P:=P) (w:=w) .eql t x y e.toArray f.toArray z;exact⟨_,by simp only[execOp,g,p,s];simp[Sem.run_bind,i,binOp,v];rfl,.u _⟩
 ·have i:=run_eqGuard_agg (P:=P) (w:=w) .neq t x y e.toArray f.toArray z;exact⟨_,by simp only[execOp,g,p,s];simp[Sem.run_bind,i,binOp,v];rfl,.u _⟩
def sEqA(bd:Bool)(d:Bool)(e:BinOp)(n:Nat)(k:IntKind)(E:EF)(x y:Operand):Option SR:=match d with
 |true=>none
 |false=>vu (z1t (.arr n (.int k)) E x) λa=>vu (z1t (.arr n (.int k)) E y) λb=>vu (jmw e (a.l == b.l)) λc=>some (.vx bd .bool c)
theorem zwa(k:IntKind):∀l:List Int,l.flatMap (jq (.int k))=(l.map (Value.int k)).map .u
 |[]=>rfl
 |a::l=>by rw[wdd,zwa k l];rfl
theorem jli{bd:Bool}{v:BinOp}{e n:Nat}{k:IntKind}{t L:Nat}{x y:Operand}{q:SR}(d:o.op=.binOp v t x y L)(K:P.underlying t=some (.array n e))(B:P.underlying e=some (.int k))(I:asz P e=some (false,1))(h:sEqA bd (P.eqGuardType P.depth t) v n k E x y=some q):SOk P o E G q:=by
 unfold sEqA at h;split at h
 ·cases h
 rename_i r;obtain⟨a,C,h⟩:=qb h;obtain⟨b,D,h⟩:=qb h;obtain⟨c,j,h⟩:=qb h;cases h;refine SOk.vx λW F H i=>?_;refine wbm (F':=zzz (.arr n (.int k)) E F) (waf λV M w N s=>?_) (z7g i);have z:evP (zzz (.arr n (.int k)) E F) x=.agg ((a.l.map (Value.int k)).map .u):=by rw[zmr C];unfold enc mkV;simp only[Yc];show PV.agg (List.flatMap (jq (.int k)) _)=_;rw[zwa]
 have A:evP (zzz (.arr n (.int k)) E F) y=.agg ((b.l.map (Value.int k)).map .u):=by rw[zmr D];unfold enc mkV;simp only[Yc];show PV.agg (List.flatMap (jq (.int k)) _)=_;rw[zwa]
 have m:=(s x (by rw[d];simp[Op.operands])).val2 (u :=.agg (a.l.map (Value.int k)).toArray) (by rw[z];simp only[PV.val2,zff];rfl);have p:=(s y (by rw[d];simp[Op.operands])).val2 (u :=.agg (b.l.map (Value.int k)).toArray) (by rw[A];simp only[PV.val2,zff];rfl);have g:=jja K B (λw=>(zjv I w).2) ⟨a.l,a.h⟩ ⟨b.l,b.h⟩ w;simp only at g;unfold jmw at j;split at j<;>cases j
 ·have f:=run_eqGuard_agg (P:=P) (w:=w) .eql t x y (a.l.map (Value.int k)).toArray (b.l.map (Value.int k)).toArray r;exact⟨_,by simp only[execOp,d,m,p];simp[Sem.run_bind,f,binOp,g],.u _⟩
 ·have f:=run_eqGuard_agg (P:=P) (w:=w) .neq t x y (a.l.map (Value.int k)).toArray (b.l.map (Value.int k)).toArray r;exact⟨_,by simp only[execOp,d,m,p];simp[Sem.run_bind,f,binOp,g],.u _⟩
theorem jkn{t:Array TypeId}{ty:TypeId}{k:IntKind}{a b:Int}:z3p P .min t ty [.u (.int k a),.u (.int k b)]=some (.u (.int k (min a b))):=by
 simp[z3p,PV.val2,Builtin.min_,Builtin.min2,q6,ofV];split<;>omega
theorem jik{t:Array TypeId}{ty:TypeId}{k:IntKind}{a b:Int}:z3p P .max t ty [.u (.int k a),.u (.int k b)]=some (.u (.int k (max a b))):=by
 simp[z3p,PV.val2,Builtin.max_,Builtin.max2,q6,ofV];split<;>omega
def jld(bd:Bool)(mx:Bool)(x y:TS):Option SR:=match x with
 |.v ⟨.int k,a⟩=>vu (Zh (.int k) y) λb=>some (.vx bd (.int k) (cond mx (max a b) (min a b)))
 |.c (.int k a)=>vu (Zh (.int k) y) λb=>some (.vx bd (.int k) (cond mx (max a b) (min a b)))
 |_=>none
theorem jcd{bd mx:Bool}{x y:Operand}{ts:Array TypeId}{q:SR}(i:o.op=.call { callee :=.builtin (cond mx .max .min),args:=#[x,y],argTypes:=ts })(h:jld bd mx (evE E x) (evE E y)=some q):SOk P o E G q:=by
 have l:x∈o.op.operands:=by rw[i];simp[Op.operands,Call.operands]
 have m:y∈o.op.operands:=by rw[i];simp[Op.operands,Call.operands]
 have d:∀{k:IntKind}{a b:Int},(evE E x).den=.u (.int k a)->Zh (.int k) (evE E y)=some b->SOk P o E G (.vx bd (.int k) (cond mx (max a b) (min a b))):=λ{k a b}n p=>by
  refine SOk.vx λW F H c=>qp ?_;unfold Vg;rw[i];have e:=c.ev l;have f:=c.ev m;rw[n]at e;rw[Jc p]at f;cases mx with
  |true=>
   show z3p P .max ts o.type [evP F x,evP F y]=_;rw[e,f];exact jik
  |false=>
   show z3p P .min ts o.type [evP F x,evP F y]=_;rw[e,f];exact jkn
 unfold jld at h;split at h
 ·rename_i k a j;obtain⟨b,g,h⟩:=qb h;cases h;exact d (by rw[j];simp only[TS.den];rfl) g
 ·rename_i k a j;obtain⟨b,g,h⟩:=qb h;cases h;exact d (by rw[j];simp only[TS.den];rfl) g
 ·cases h
end
def SR.mem(s:TS)(id:Nat)(x:GB)(rd:List Nat):SR:=⟨Unit,true,some (),λ_=>s,λ_=>[(id,x)],rd,[id],[]⟩
def SR.memO(α:Type)(a:Option α)(s:TS)(id:Nat)(x:α->GB)(rd:List Nat):SR:=⟨α,false,a,λ_=>s,λy=>[(id,x y)],rd,[id],[]⟩
section
variable{P:Program}{o:Oper}{E:EF}{G:EG}{rd:List Nat}{F:PFrame}{H:PHeap}{W:Env}{n:Nat}
theorem SOk.mem{s:TS}{id:Nat}{x:GB}(h:∀W n F H,Y4 n o->Agr o E G (id::rd) F H->PE P W n o F H (λp c=>p=s.den/\c=H.set (.o id) (v6 id x))):SOk P o E G (.mem s id x rd):=
 ⟨λ_=>rfl,λy g W n F H f e d b=>h W n F H e ⟨d,λi a=>by
  rcases wc1.1 a with rfl|a
  ·exact b i (.inr (by simp[SR.mem]))
  ·exact b i (.inl a)⟩⟩
theorem SOk.memO{α:Type}{c:Option α}{s:TS}{id:Nat}{x:α->GB}(h:∀y,c=some y->∀W n F H,Y4 n o->Agr o E G (id::rd) F H->PE P W n o F H (λp d=>p=s.den/\d=H.set (.o id) (v6 id (x y)))):SOk P o E G (.memO α c s id x rd):=
 ⟨λ_=>rfl,λy j W n F H g f e b=>h y j W n F H f ⟨e,λi a=>by
  rcases wc1.1 a with rfl|a
  ·exact b i (.inr (by simp[SR.memO]))
  ·exact b i (.inl a)⟩⟩
def nv(G:EG)(id:Nat):Nat:=(G id).ver+1
theorem zrz{id:Nat}(a:Agr o E G (id::rd) F H):(H (.o id)).ver+1=nv G id:=by rw[a.h id (by simp)];rfl
def z6(o:Oper):Bool:=match o.dst with
 |some _=>true
 |none=>false
theorem v8{o:Oper}(h:z6 o=true):∃d,o.dst=some d:=by
 unfold z6 at h;split at h
 ·exact⟨_,by assumption⟩
 ·cases h
def z91(zt:ZT)(t:TypeId)(o:Oper)(G:EG)(id:Nat):Option SR:=match z6 o with
 |true=>match zt t with
  |some a=>some (.mem (.pt id 0 (nv G id)) id ⟨nv G id,some (.box t a)⟩ [])
  |none=>none
 |false=>none
theorem jex{zt:ZT}(j:zgc P zt){t:TypeId}{id:Nat}{q:SR}(k:o.op=.alloc t)(h:z91 zt t o G id=some q):SOk P o E G q:=by
 unfold z91 at h;split at h<;>try (cases h;done)
 rename_i b;obtain⟨d,b⟩:=v8 b;split at h<;>cases h;rename_i l i;obtain⟨us,e,f,g⟩:=j t l i;refine SOk.mem λW n F H a c=>?_;refine waq (p0 :=.pp (.o id) 0 (nv G id)) (.box g) (by simp only[TS.den];exact Ref.refl _) a (PE.alloc (id :=.o id) k b (a d b) e f ?_);rw[zrz c];exact⟨rfl,rfl⟩
def sBox(t:TypeId)(o:Oper)(G:EG)(id:Nat)(x:TS):Option SR:=match z6 o && okT G x with
 |true=>some (.mem (.pt id 0 (nv G id)) id ⟨nv G id,some (.box t [x])⟩ (zkx x))
 |false=>none
theorem jmk{t:TypeId}{x:Operand}{id:Nat}{q:SR}(j:o.op=.box t x)(h:sBox t o G id (evE E x)=some q):SOk P o E G q:=by
 have f:x∈o.op.operands:=by rw[j];simp[Op.operands]
 unfold sBox at h;split at h<;>cases h;rename_i c;simp only[wcl]at c;obtain⟨d,g⟩:=v8 c.1;refine SOk.mem λW n F H e a=>?_;have b:=a.ev f;refine PE.box (id :=.o id) j g (e d g) (by rw[b];exact zft c.2 λi k=>a.h i (by simp[k])) ?_;rw[zrz a,b];refine⟨by simp only[TS.den],?_⟩;simp only[v6,wc3,BD.den,qd,wc7]
def yz{α:Type}(l:List α)(i:Int)(y:α):Option (List α):=match decide (0<=i)with
 |true=>match decide (i.toNat<l.length)with
  |true=>some (l.set i.toNat y)
  |false=>none
 |false=>none
def jn5:List TS->Nat->TS->Option (List TS)
 |[],_,_=>none
 |x::b,a,s=>match Nat.blt a (Za x)with
  |true=>some (s::b)
  |false=>match jn5 b (a-Za x) s with
   |some c=>some (x::c)
   |none=>none
def ztv{n:Nat}{α:Type}(a:Arr n α)(i:Int)(y:α):Option (Arr n α):=match decide (0<=i)with
 |true=>match decide (i.toNat<n)with
  |true=>some ⟨a.l.set i.toNat y,by rw[web,a.h]⟩
  |false=>none
 |false=>none
def sSto(ag:Bool)(k:Nat)(G:EG)(x y:TS):Option SR:=match okT G y with
 |false=>none
 |true=>match x with
  |.pt id e d=>match Nat.beq (G id).ver d with
   |true=>match (G id).b with
    |some (.box c f)=>match jkw e k y f with
     |some g=>some (.mem UND id ⟨d,some (.box c g)⟩ (zkx y))
     |none=>none
    |some (.rowx c w f)=>match jkw e k y f with
     |some g=>match Nat.beq g.length f.length with
      |true=>some (.mem UND id ⟨d,some (.rowx c w g)⟩ (zkx y))
      |false=>none
     |none=>none
    |_=>none
   |false=>none
  |.elt id w i e d=>match Nat.beq (G id).ver d with
   |true=>match (G id).b with
    |some (.row c t l)=>match Nat.beq w (wid t) && (Nat.beq e 0 && Nat.beq k w)with
     |true=>match toT t y with
      |some v=>some (.memO (List t.D) (yz l i v) UND id (λm=>⟨d,some (.row c t m)⟩) (zkx y))
      |none=>none
     |false=>none
    |some (.box c f)=>match zmn f e with
     |some (.v ⟨.arr n t,a⟩,h)=>match Nat.beq w (wid t) && (Nat.beq h 0 && Nat.beq k w)with
      |true=>match toT t y with
       |some v=>some (.memO (Arr n t.D) (ztv a i v) UND id (λj=>⟨d,(jn5 f e (.v ⟨.arr n t,j⟩)).map λg=> .box c g⟩) (zkx y))
       |none=>none
      |false=>none
     |_=>none
    |_=>none
   |false=>none
  |_=>none
theorem und_den:UND.den=.u undef:=by simp only[UND,TS.den];rfl
theorem zr7{pre mid post ps:List PV}{j:Nat}(h:j+ps.length<=mid.length):setMany (pre++mid++post) (pre.length+j) ps=pre++setMany mid j ps++post:=by
 unfold setMany;rw[wc6 pre mid post,List.take_length_add_append,show pre.length+j+ps.length=pre.length+(j+ps.length) by omega,List.drop_length_add_append,wfn (by omega),List.drop_append_of_le_length h];simp only[wc6]
theorem zvt{t:Ty}{l:List t.D}{i:Nat}{y:t.D}(h:i<l.length):setMany (l.flatMap (jq t)) (i*wid t) (jq t y)=(l.set i y).flatMap (jq t):=by
 have d:l=l.take i++l[i]::l.drop (i+1):=by simp
 have a:l.flatMap (jq t)=(l.take i).flatMap (jq t)++jq t l[i]++(l.drop (i+1)).flatMap (jq t):=by
  conv=>lhs;rw[d]
  simp only[wex,wdd,wc6]
 have b:(l.set i y).flatMap (jq t)=(l.take i).flatMap (jq t)++jq t y++(l.drop (i+1)).flatMap (jq t):=by
  rw[List.set_eq_take_append_cons_drop,if_pos h];simp only[wex,wdd,wc6]
 have c:((l.take i).flatMap (jq t)).length=i*wid t:=by
  rw[J6 _ (wid t) _ λx _=>qa t x,wdl];congr 1;omega
 rw[a,b,<- c];have:=zr7 (pre:=(l.take i).flatMap (jq t)) (mid:=jq t l[i]) (post:=(l.drop (i+1)).flatMap (jq t)) (ps:=jq t y) (j:=0) (by rw[qa,qa];omega);simp only[wd5]at this;rw[this];congr 2;unfold setMany;simp only[List.take_zero,wei,wdo];rw[wdu (by rw[qa,qa];exact wcq _),wc7]
theorem RefL.setMany2{ps qs:List PV}(h:RefL ps qs)(cs:List PV)(off:Nat):RefL (L.setMany cs off ps) (L.setMany cs off qs):=by
 unfold L.setMany;rw[h.1];exact RefL.append (RefL.append (RefL.refl _) h) (RefL.refl _)
theorem zd8{α:Type}{l a:List α}{i:Int}{y:α}(h:yz l i y=some a):i.toNat<l.length/\a=l.set i.toNat y:=by
 unfold yz at h;split at h<;>try (cases h;done)
 split at h<;>cases h;rename_i b;exact⟨wcd b,rfl⟩
theorem jf4{n:Nat}{α:Type}{a b:Arr n α}{i:Int}{y:α}(h:ztv a i y=some b):i.toNat<n/\b.l=a.l.set i.toNat y:=by
 unfold ztv at h;split at h<;>try (cases h;done)
 split at h<;>cases h;rename_i c;exact⟨wcd c,rfl⟩
theorem jcl:∀{xs:List TS}{off:Nat}{p s:TS},zmn xs off=some (p,0)->Za s=Za p->∃c a post,jn5 xs off s=some c/\qd xs=a++p.den.cells++post/\qd c=a++s.den.cells++post/\a.length=off
 |[],off,p,s,h,_=>by simp[zmn]at h
 |x::xs,off,p,s,h,i=>by
  simp only[zmn]at h;simp only[jn5];split at h
  ·rename_i b;cases h;exact⟨s::xs,[],qd xs,by first|(rw[b];done)|rfl,by simp only[qd,wei],by simp only[qd,wei],rfl⟩
  ·rename_i b;obtain⟨c,a,post,d,f,g,j⟩:=jcl (s:=s) h i;have:¬off<Za x:=by
    intro e;have:Nat.blt off (Za x)=true:=by simpa [wfk]using e
    rw[b]at this;cases this
   refine⟨x::c,x.den.cells++a,post,by first|(rw[b,d];done)|(rw[d];done)|simp[d],by simp only[qd,f,wc6],by simp only[qd,g,wc6],?_⟩;rw[wcu,zkf];omega
theorem jlv{t k:Nat}{ag:Bool}{x y:Operand}{q:SR}(S:o.op=.store t x y)(Y:asz P t=some (ag,k))(h:sSto ag k G (evE E x) (evE E y)=some q):SOk P o E G q:=by
 have K:x∈o.op.operands:=by rw[S];simp[Op.operands]
 have L:y∈o.op.operands:=by rw[S];simp[Op.operands]
 unfold sSto at h;split at h
 ·cases h
 rename_i D;have ru:∀{W n F H}{id ver:Nat}{bd:PBody}{x:GB},(v6 id x)=⟨ver,some bd⟩->PE P W n o F H (λp Z=>p=.u undef/\Z=H.set (.o id) ⟨ver,some bd⟩)->PE P W n o F H (λp Z=>p=UND.den/\Z=H.set (.o id) (v6 id x)):=λ{W n F H id ver bd x}e a7=>by
  rw[e,und_den];exact a7
 split at h
 ·rename_i id off ver X;split at h<;>try (cases h;done)
  rename_i I;have I:=wcj I;split at h<;>try (cases h;done)
  ·rename_i d B z;split at h<;>cases h;rename_i T Q;obtain⟨J,e2,e3⟩:=z20 Q;refine SOk.mem λW n F H f b=>ru (bd :=.box d (qd T)) rfl ?_;have r:=b.h id (by simp);have c:=b.ev L;refine PE.store (id :=.o id) (off:=off) (ver:=ver) (cs:=qd B) (bd :=.box d (qd B)) S f (by rw[b.ev K,X];simp only[TS.den]) (J9 r z I) Y (by rw[c];exact zft D λi j=>b.h i (by simp[j])) (by rw[c];exact e3) e2 (by rw[r];simp[v6,z,BD.den]) ⟨rfl,?_⟩;rw[c,J];rfl
  ·rename_i d w B z;split at h<;>try (cases h;done)
   rename_i T Q;split at h<;>cases h;rename_i A;have A:=wcj A;obtain⟨J,e2,e3⟩:=z20 Q;refine SOk.mem λW n F H f b=>ru (bd :=.row d w T.length (qd T)) rfl ?_;have r:=b.h id (by simp);have c:=b.ev L;refine PE.store (id :=.o id) (off:=off) (ver:=ver) (cs:=qd B) (bd :=.row d w B.length (qd B)) S f (by rw[b.ev K,X];simp only[TS.den]) (Qk r z rfl I) Y (by rw[c];exact zft D λi j=>b.h i (by simp[j])) (by rw[c];exact e3) e2 (by rw[r];simp[v6,z,BD.den]) ⟨rfl,?_⟩;rw[c,J,A];rfl
 ·rename_i id w i off ver X;split at h<;>try (cases h;done)
  rename_i I;have I:=wcj I;split at h<;>try (cases h;done)
  ·rename_i d ty l z;split at h
   ·rename_i C;simp only[wcl]at C;have N:=wcj C.1;have eo:=wcj C.2.1;have R:=wcj C.2.2;split at h<;>cases h;rename_i v O;subst eo;refine SOk.memO λl' a6 W n F H f b=>?_;obtain⟨j,rfl⟩:=zd8 a6;have r:=b.h id (by simp);have c:=b.ev L;have U:=(zbt _ _ _ O).1;have g:(l.flatMap (jq ty)).length=l.length*wid ty:=J6 _ _ _ λx _=>qa ty x;have M:(evE E y).den.cells.length=k:=by rw[U.1,qa,R,N]
    refine waq (bd :=.row d (wid ty) l.length (setMany (l.flatMap (jq ty)) (i.toNat*wid ty) (evE E y).den.cells)) (bd' :=.row d (wid ty) (l.set i.toNat v).length ((l.set i.toNat v).flatMap (jq ty))) (by rw[<- zvt j,web];exact .row (U.setMany2 _ _)) (by rw[und_den];exact Ref.refl _) f ?_;refine PE.store (id :=.o id) (off:=i.toNat*w+0) (ver:=ver) (cs:=l.flatMap (jq ty)) (bd :=.row d (wid ty) l.length (l.flatMap (jq ty))) S f (by rw[b.ev K,X];simp only[TS.den]) (Qk r z rfl I) Y (by rw[c];exact zft D λi j=>b.h i (by simp[j])) (by rw[c];exact M) ?_ (by rw[r];simp[v6,z,BD.den]) ⟨rfl,?_⟩
    ·rw[g,R,N,wd5];have:(i.toNat+1)*wid ty<=l.length*wid ty:=wes _ j;rwa [wfw]at this
    ·rw[c,wd5,N];rfl
   ·cases h
  ·rename_i d B z;split at h<;>try (cases h;done)
   rename_i m ty a b0 a5;split at h<;>try (cases h;done)
   rename_i C;simp only[wcl]at C;have N:=wcj C.1;have eo:=wcj C.2.1;have R:=wcj C.2.2;split at h<;>cases h;rename_i v O;subst eo;refine SOk.memO λa' a3 W n F H f b=>?_;obtain⟨j,a4⟩:=jf4 a3;obtain⟨T,a9,post,p1,p2,p3,p4⟩:=jcl (s :=.v ⟨.arr m ty,a'⟩) a5 (by simp only[Za]);have r:=b.h id (by simp);have c:=b.ev L;have U:=(zbt _ _ _ O).1;have M:(evE E y).den.cells.length=k:=by rw[U.1,qa,R,N]
   simp only[TS.den,enc_cells,jq]at p2 p3;have g:(a.l.flatMap (jq ty)).length=m*wid ty:=by rw[J6 _ (wid ty) _ λx _=>qa ty x,a.h]
   have V:(i.toNat*wid ty)+wid ty<=m*wid ty:=by
    have:(i.toNat+1)*wid ty<=m*wid ty:=wes _ j;rwa [wfw]at this
   have e5:setMany (qd B) (off+i.toNat*wid ty) (evE E y).den.cells=a9++setMany (a.l.flatMap (jq ty)) (i.toNat*wid ty) (evE E y).den.cells++post:=by
    rw[p2,<- p4,zr7];rw[g,M,R,N];exact V
   rw[p1];refine waq (bd :=.box d (setMany (qd B) (off+i.toNat*wid ty) (evE E y).den.cells)) (bd' :=.box d (qd T)) (.box ?_) (by rw[und_den];exact Ref.refl _) f ?_
   ·rw[e5,p3,a4,<- zvt (by rw[a.h];exact j)];exact RefL.append (RefL.append (RefL.refl _) (U.setMany2 _ _)) (RefL.refl _)
   refine PE.store (id :=.o id) (off:=i.toNat*w+off) (ver:=ver) (cs:=qd B) (bd :=.box d (qd B)) S f (by rw[b.ev K,X];simp only[TS.den]) (J9 r z I) Y (by rw[c];exact zft D λi j=>b.h i (by simp[j])) (by rw[c];exact M) ?_ (by rw[r];simp[v6,z,BD.den]) ⟨rfl,?_⟩
   ·rw[p2];simp only[wcu,g,R,N];omega
   ·rw[c,N,wfr];rfl
 ·cases h
end
def apO{α:Type}(b:Nat)(l m:List α):Option (List α):=match decide (l.length+m.length<=maxLen) && decide ((l.length+m.length)*b<=140737488355328)with
 |true=>some (l++m)
 |false=>none
theorem za8{α:Type}{b:Nat}{l m r:List α}(h:apO b l m=some r):l.length+m.length<=maxLen/\(l.length+m.length)*b<=140737488355328/\r=l++m:=by
 unfold apO at h;split at h<;>cases h;rename_i a;simp only[wcl,wcy]at a;exact⟨a.1,a.2,rfl⟩
def mkO(b:Nat)(z:Int):Option Nat:=match decide (0<=z) && (decide (z.toNat<=maxLen) && decide (b*z.toNat<=281474976710656))with
 |true=>some z.toNat
 |false=>none
theorem z9d{b:Nat}{z:Int}{m:Nat}(h:mkO b z=some m):z=(m:Int)/\m<=maxLen/\b*m<=281474976710656:=by
 unfold mkO at h;split at h<;>cases h;rename_i a;simp only[wcl,wcy]at a;exact⟨by omega,a.2.1,a.2.2⟩
def z8x(ty:Ty)(G:EG):TS->Option (List ty.D×List Nat)
 |.v d=>match d.as (.sl ty)with
  |some l=>some (l,[])
  |none=>none
 |.own id a=>match Nat.beq (G id).ver a with
  |true=>match (G id).b with
   |some (.row _ t l)=>match Dyn.as ⟨.sl t,l⟩ (.sl ty)with
    |some l=>some (l,[id])
    |none=>none
   |_=>none
  |false=>none
 |.c (.slice none 0 0)=>some ([],[])
 |_=>none
abbrev SE:=Option (TypeId×Nat×Nat×Value)
def tyRow(G:EG):TS->Option Ty
 |.v ⟨.sl t,_⟩=>some t
 |.own id _=>match (G id).b with
  |some (.row _ t _)=>some t
  |_=>none
 |_=>none
def sApp(h:SE)(o:Oper)(G:EG)(a:Nat)(s x:TS):Option SR:=match z6 o with
 |false=>none
 |true=>match h with
  |none=>none
  |some (e,k,b,_)=>match s with
   |.own id d=>match Nat.beq (G id).ver d with
    |true=>match (G id).b with
     |some (.row f ty l)=>match Nat.beq f e && (Nat.beq (wid ty) k && zda ty)with
      |true=>match z8x ty G x with
       |some r=>some (.memO (List ty.D) (apO b l r.1) (.own id (d+1)) id (λg=>⟨d+1,some (.row f ty g)⟩) r.2)
       |none=>none
      |false=>none
     |_=>none
    |false=>none
   |.c (.slice none 0 0)=>match tyRow G x with
    |some ty=>match Nat.beq (wid ty) k && zda ty with
     |true=>match z8x ty G x with
      |some r=>some (.memO (List ty.D) (apO b [] r.1) (.own a (nv G a)) a (λg=>⟨nv G a,some (.row e ty g)⟩) r.2)
      |none=>none
     |false=>none
    |none=>none
   |_=>none
section
variable{P:Program}{o:Oper}{E:EF}{G:EG}{rd:List Nat}{F:PFrame}{H:PHeap}{W:Env}{n:Nat}
theorem zj9{ty:Ty}{k:Nat}{s:TS}{r:List ty.D×List Nat}(h:z8x ty G s=some r)(e:wid ty=k)(f:∀id∈r.2,H (.o id)=v6 id (G id)):zxb H k s.den=some (r.1.length,r.1.flatMap (jq ty)):=by
 unfold z8x at h;split at h
 ·split at h<;>cases h;rename_i d l b;have:=wag b;subst this;simp only[TS.den];rw[zht];unfold zxb;simp only;rw[if_pos e,wcv,Yg]
 ·rename_i id j;split at h<;>try (cases h;done)
  rename_i c;have c:=wcj c;split at h<;>try (cases h;done)
  rename_i i t l g;split at h<;>cases h;rename_i m b;have:=wag b;injection this with e1 a
  injection e1 with e1
  subst e1;have a:=eq_of_heq a;subst a;simp only[TS.den];unfold zxb;simp only;rw[zl (f id (by simp)) g rfl c];simp only;rw[if_pos e]
 ·cases h;simp only[TS.den];rfl
 ·cases h
theorem zd5{ty:Ty}(a:zda ty=true)(l:List ty.D):∀p∈l.flatMap (jq ty),Jm H p=true:=λp b=>by
 obtain⟨x,_,c⟩:=wds.1 b;exact zd6 ty x H a p c
theorem jlq{t:Nat}{s x:Operand}{A:Nat}{q:SR}(B:o.op=.call { callee :=.builtin .append,args:=#[s,x],argTypes:=#[t,t] })(h:sApp (Jy P t) o G A (evE E s) (evE E x)=some q):SOk P o E G q:=by
 have v:s∈o.op.operands:=by rw[B];simp[Op.operands,Call.operands]
 have y:x∈o.op.operands:=by rw[B];simp[Op.operands,Call.operands]
 unfold sApp at h;split at h
 ·cases h
 rename_i u;obtain⟨d,u⟩:=v8 u;split at h
 ·cases h
 rename_i e k b z w;split at h
 ·rename_i id ver L;split at h<;>try (cases h;done)
  rename_i M;have M:=wcj M;split at h<;>try (cases h;done)
  rename_i S ty l O;split at h<;>try (cases h;done)
  rename_i f;simp only[wcl]at f;have N:=wcj f.1;have p:=wcj f.2.1;subst N;split at h<;>cases h;rename_i r K;refine SOk.memO λR j W n F H g a=>?_;obtain⟨C,D,rfl⟩:=za8 j;have c:=zj9 (H:=H) K p λi I=>a.h i (by simp[I]);refine PE.append (id :=.o id) (ver:=ver) (m:=l.length) (m2:=r.1.length) (cs:=l.flatMap (jq ty)) (cs2:=r.1.flatMap (jq ty)) B u (g d u) w (by rw[a.ev v,L];simp only[TS.den]) ?_ (by rw[a.ev y];exact c) (zd5 f.2.2 _) C D ?_
  ·rw[zl (a.h id (by simp)) O rfl M,p]
  ·refine⟨by simp only[TS.den],?_⟩;simp only[v6,wc3,BD.den,p,wcu,wex]
 ·rename_i L;split at h<;>try (cases h;done)
  rename_i ty Q;split at h<;>try (cases h;done)
  rename_i f;simp only[wcl]at f;have p:=wcj f.1;split at h<;>cases h;rename_i r K;refine SOk.memO λR j W n F H g a=>?_;obtain⟨C,D,rfl⟩:=za8 j;have c:=zj9 (H:=H) K p λi I=>a.h i (by simp[I]);refine waw (id :=.o A) (m2:=r.1.length) (cs2:=r.1.flatMap (jq ty)) B u (g d u) w (by rw[a.ev v,L];simp only[TS.den];rfl) (by rw[a.ev y];exact c) (zd5 f.2 _) (by simpa using C) (by simpa using D) ?_;rw[zrz a];refine⟨by simp only[TS.den],?_⟩;simp only[v6,wc3,BD.den,p,wei]
 ·cases h
abbrev ZY:=TypeId->Option Dyn
def zyB(z:Value)(d:Dyn):Bool:=match d,z with
 |⟨.int k,x⟩,.int a y=>ikB k a && decide (x=y)
 |⟨.bool,x⟩,.bool y=>eqb x y
 |⟨.str,[]⟩,.string y=>match y.data.toList with
  |[]=>true
  |_=>false
 |⟨.sl _,[]⟩,.slice none 0 0=>true
 |⟨.ref _,none⟩,.pointer none=>true
 |_,_=>false
theorem jkh{z:Value}{d:Dyn}(h:zyB z d=true):Ref (.u z) (enc d.t d.x)/\wid d.t=1/\(enc d.t d.x).cells=[enc d.t d.x]/\z.oneCell'=true:=by
 unfold zyB at h;split at h
 ·rename_i k x b y;simp only[wcl]at h;rw[z4i h.1,wcd h.2];exact⟨Ref.refl _,rfl,rfl,rfl⟩
 ·rename_i x y;rw[jbw]at h;have:x=y:=by simpa using h
  subst this;exact⟨Ref.refl _,rfl,rfl,rfl⟩
 ·rename_i y;split at h<;>try (cases h;done)
  rename_i a;have:y=⟨⟨[]⟩⟩:=by
   obtain⟨⟨l⟩⟩:=y;simp at a;subst a;rfl
  subst this;exact⟨Ref.refl _,rfl,rfl,rfl⟩
 ·exact⟨wbl _ _ _,rfl,rfl,rfl⟩
 ·exact⟨Ref.refl _,rfl,rfl,rfl⟩
 ·cases h
def zpo:Operand->Operand->Bool
 |.tmp a,.tmp b=>Nat.beq a b
 |.const (.int _ a),.const (.int _ b)=>decide (a=b)
 |_,_=>false
def sMk(zy:ZY)(f:SE)(o:Oper)(G:EG)(c:Nat)(same:Bool)(x:TS):Option SR:=match z6 o && same with
 |false=>none
 |true=>match f with
  |none=>none
  |some (e,k,b,z)=>match zy e with
   |none=>none
   |some d=>match Nat.beq k 1 && zyB z d with
    |true=>vu (zeu x) λa=>some (.memO Nat (mkO b a) (.own c (nv G c)) c (λm=>⟨nv G c,some (.row e d.t (List.replicate m d.x))⟩) [])
    |false=>none
theorem z1v{x y:Operand}(h:zpo x y=true)(d:∃k z,evP F x=.u (.int k z)):∃k z,evP F x=.u (.int k z)/\∃c,evP F y=.u (.int c z):=by
 unfold zpo at h;split at h
 ·have:=wcj h;subst this;obtain⟨k,z,e⟩:=d;exact⟨k,z,e,k,e⟩
 ·rename_i k a c b;have:=wcd h;subst this;exact⟨k,a,rfl,c,rfl⟩
 ·cases h
theorem z8t{α:Type}{f:α->List PV}{x:α}{y:PV}(h:f x=[y]):∀m,(List.replicate m x).flatMap f=List.replicate m y
 |0=>rfl
 |m+1=>by rw[List.replicate_succ,wdd,h,z8t h m];rfl
theorem wbj{p q:PV}(h:Ref p q):∀m,RefL (List.replicate m p) (List.replicate m q)
 |0=>RefL.nil
 |m+1=>RefL.cons h (wbj h m)
theorem sMk_ok{zy:ZY}{t:Nat}{x y:Operand}{p:Nat}{q:SR}(B:o.op=.makeSlice t x y)(h:sMk zy (Jy P t) o G p (zpo x y) (evE E x)=some q):SOk P o E G q:=by
 have v:x∈o.op.operands:=by rw[B];simp[Op.operands]
 unfold sMk at h;split at h
 ·cases h
 rename_i f;simp only[wcl]at f;obtain⟨d,A⟩:=v8 f.1;split at h
 ·cases h
 rename_i e k b z l;split at h
 ·cases h
 rename_i c L;split at h<;>try (cases h;done)
 rename_i r;simp only[wcl]at r;have I:=wcj r.1;obtain⟨R,S,T,U⟩:=jkh r.2;obtain⟨a,K,h⟩:=qb h;cases h;obtain⟨C,M⟩:=Ye K;refine SOk.memO λm N W n F H j i=>?_;obtain⟨rfl,O,Q⟩:=z9d N;have g:evP F x=.u (.int C m):=by rw[i.ev v,M]
 obtain⟨V,Y,w,X,D⟩:=z1v (F:=F) f.2 ⟨C,m,g⟩;rw[g]at w;cases w;rw[I]at l;have s:jq c.t c.x=[enc c.t c.x]:=by rw[<- enc_cells];exact T
 refine waq (bd :=.row e 1 m (List.replicate m (.u z))) (bd' :=.row e (wid c.t) (List.replicate m c.x).length ((List.replicate m c.x).flatMap (jq c.t))) (by rw[S,wch,z8t s];exact .row (wbj R m)) (Ref.refl _) j ?_;refine PE.makeSlice (id :=.o p) (m:=m) B A (j d A) l U g D O Q ?_;rw[zrz i];exact⟨by simp only[TS.den],rfl⟩
inductive LK where
 |told (t:Ty)
 |own (t:Ty)
 |ownx
 |rows (it:TypeId) (t:Ty)
 |que
 |mrows (kt:Ty) (it:TypeId) (t:Ty)
theorem Ref.sl{k:Nat}{xs ys:List PV}(h:xs.length=ys.length)(f:RefL (xs.flatMap PV.cells) (ys.flatMap PV.cells))(o:∀y∈ys,y.cells.length=k):Ref (.sl k xs) (.sl k ys):=λZ H V w v r=>by
 cases r with
 |nil k a c=>
  have:ys=[]:=wfa.1 h.symm;subst this;exact .nil k a c
 |sl _ _ b s c g q j hz n l m=>
  rw[h];refine .sl k ys b s c g o (by omega) hz n (λi p e=>?_) λi p e=>?_
  ·have d:i<(xs.flatMap PV.cells).length:=by rw[f.1];exact(wcg.1 e).1
   exact l i _ (wcf d)
  ·have d:i<(xs.flatMap PV.cells).length:=by rw[f.1];exact(wcg.1 e).1
   exact f.2 i _ p (wcf d) e _ _ _ _ _ (m i _ (wcf d))
def jmt:Nat->List Nat->Bool
 |_,[]=>true
 |i,a::l=>Nat.beq a i && jmt (i+1) l
theorem jc1:∀{l:List Nat}{i:Nat},jmt i l=true->l=(List.range l.length).map (i + ·)
 |[],_,_=>rfl
 |a::l,i,h=>by
  simp only[jmt,wcl]at h;have b:=wcj h.1;have c:=jc1 h.2;rw[wdy,List.range_succ_eq_map,wc4,wd8];rw[<- b];congr 1
  conv=>lhs;rw[c]
  apply weo;intro x _;simp only[Function.comp];omega
def jce(k:Nat):List TS->Bool
 |[]=>true
 |x::a=>Nat.beq (Za x) k && jce k a
def jnt(G:EG)(k len:Nat)(ps:List (Nat×TS)):Bool:=jmt 0 (ps.map Prod.fst) && (Nat.beq ps.length len && (jce k (ps.map Prod.snd) && jbr G (ps.map Prod.snd)))
def sLit(lk:Option LK)(c:SE)(o:Oper)(G:EG)(a len:Nat)(ps:List (Nat×TS)):Option SR:=match z6 o with
 |false=>none
 |true=>match lk with
  |none=>none
  |some lk=>match c with
   |none=>none
   |some (e,k,b,z)=>match (z.cells.toList.all Value.oneCell' && (Nat.ble (len*k) 16777216 && Nat.ble len 16777216)) && jnt G k len ps with
    |false=>none
    |true=>match lk with
     |.told ty=>match Nat.beq (wid ty) k with
      |true=>match zhv ty (ps.map Prod.snd)with
       |some l=>some (.now (.v ⟨.sl ty,l⟩) (zi1 (ps.map Prod.snd)))
       |none=>none
      |false=>none
     |.own ty=>match Nat.beq (wid ty) k with
      |true=>match zhv ty (ps.map Prod.snd)with
       |some l=>some (.mem (.own a (nv G a)) a ⟨nv G a,some (.row e ty l)⟩ (zi1 (ps.map Prod.snd)))
       |none=>none
      |false=>none
     |.ownx=>some (.mem (.own a (nv G a)) a ⟨nv G a,some (.rowx e k (ps.map Prod.snd))⟩ (zi1 (ps.map Prod.snd)))
     |.rows _ _=>none
     |.que=>none
     |.mrows _ _ _=>none
theorem z8j{k:Nat}:∀{xs:List TS},jce k xs=true->∀x∈xs,x.den.cells.length=k
 |[],_,x,a=>by simp at a
 |y::xs,h,x,a=>by
  simp only[jce,wcl]at h;rcases wc1.1 a with rfl|a
  ·rw[zkf];exact wcj h.1
  ·exact z8j h.2 x a
theorem z5w:∀{xs:List TS},jbr G xs=true->∀x∈xs,okT G x=true
 |[],_,x,a=>by simp at a
 |y::xs,h,x,a=>by
  simp only[jbr,wcl]at h;rcases wc1.1 a with rfl|a
  ·exact h.1
  ·exact z5w h.2 x a
theorem z1k:∀{xs:List TS}{x:TS},x∈xs->∀id∈zkx x,id∈zi1 xs
 |[],x,b,_,_=>by simp at b
 |y::xs,x,b,id,a=>by
  simp only[zi1,wco];rcases wc1.1 b with rfl|b
  ·exact .inl a
  ·exact .inr (z1k b id a)
theorem jdq{k len:Nat}{ps:List (Nat×TS)}(h:jnt G k len ps=true)(i:∀id∈zi1 (ps.map Prod.snd),H (.o id)=v6 id (G id)):zxf H k len (ps.map λx=>(x.1,x.2.den))=true:=by
 unfold jnt at h;simp only[wcl]at h;obtain⟨d,a,f,g⟩:=h;have a:=wcj a;unfold zxf;rw[wcl,wcy,wdx];constructor
 ·have:=jc1 d;rw[wd8];have e:(ps.map ((λx=>x.1) ∘ λx=>(x.1,x.2.den)))=ps.map Prod.fst:=rfl;rw[e,this,wcv,a];simp
 ·intro p j;obtain⟨x,l,rfl⟩:=wcz.1 j;have c:x.2∈ps.map Prod.snd:=wcz.2 ⟨x,l,rfl⟩;rw[wcl,wcy];exact⟨z8j f _ c,zft (z5w g _ c) λid b=>i id (z1k c id b)⟩
theorem jol{lk:Option LK}{t len f:Nat}{a:Array (Nat×Operand)}{q:SR}(M:o.op=.buildSlice t len a)(h:sLit lk (Jy P t) o G f len (a.toList.map λx=>(x.1,evE E x.2))=some q):SOk P o E G q:=by
 have C:∀x∈a.toList,x.2∈o.op.operands:=λx B=>by
  rw[M];simp only[Op.operands,List.mem_toArray,wcz];exact⟨x,B,rfl⟩
 have v:∀{rd F H},Agr o E G rd F H->(a.toList.map λx=>(x.1,evP F x.2))=(a.toList.map λx=>(x.1,evE E x.2)).map λp=>(p.1,p.2.den):=λ{rd F H}c=>by
  rw[wd8];exact weo λx B=>by simp only[Function.comp];rw[c.ev (C x B)]
 have j:∀{rd F H},Agr o E G rd F H->(a.toList.map λx=>evP F x.2)=((a.toList.map λx=>(x.1,evE E x.2)).map Prod.snd).map TS.den:=λ{rd F H}c=>by
  rw[wd8,wd8];exact weo λx B=>by simp only[Function.comp];rw[c.ev (C x B)]
 have w:∀Q:List TS,(Q.map TS.den).flatMap PV.cells=qd Q:=λQ=>by rw[zqq,List.flatMap_map]
 generalize (a.toList.map λx=>(x.1,evE E x.2))=ps at *;unfold sLit at h;split at h
 ·cases h
 rename_i K;obtain⟨d,U⟩:=v8 K;split at h
 ·cases h
 split at h
 ·cases h
 rename_i e k b z A;split at h
 ·cases h
 rename_i T;simp only[wcl]at T;obtain⟨⟨S,D,I⟩,u⟩:=T;have D:=wd2 D;have I:=wd2 I;have I:len<=maxLen:=by simp[maxLen];omega
 have m:ps.length=len:=by
  unfold jnt at u;simp only[wcl]at u;exact wcj u.2.1
 have i:∀{W n F H},Y4 n o->Agr o E G (f::zi1 (ps.map Prod.snd)) F H->PE P W n o F H (λp R=>p=.ps (.o f) (nv G f)/\R=H.set (.o f) ⟨nv G f,some (.row e k len (qd (ps.map Prod.snd)))⟩):=λ{W n F H}g c=>by
  refine PE.buildSlice (id :=.o f) M U (g d U) A S D I (by rw[v c];exact jdq u λid s=>c.h id (by simp[s])) ?_;rw[zrz c,j c,w];exact⟨rfl,rfl⟩
 split at h
 ·rename_i ty;split at h<;>try (cases h;done)
  rename_i r;have r:=wcj r;split at h<;>cases h;rename_i l L;obtain⟨N,O⟩:=zhb L;refine SOk.now λW F H c=>?_;refine PQ.ref (PQ.buildSlice M A S D (by rw[v c];exact jdq u λid s=>c.h id s)) ?_;rw[j c];simp only[TS.den];rw[zht,r];refine Ref.sl (by simp[O]) (by rw[w,Yg];exact N) λy Y=>?_;obtain⟨x,_,rfl⟩:=wcz.1 Y;rw[enc_cells,qa,r]
 ·rename_i ty;split at h<;>try (cases h;done)
  rename_i r;have r:=wcj r;split at h<;>cases h;rename_i l L;obtain⟨N,O⟩:=zhb L;refine SOk.mem λW n F H g c=>?_;refine waq (p0 :=.ps (.o f) (nv G f)) (bd :=.row e k len (qd (ps.map Prod.snd))) (bd' :=.row e (wid ty) l.length (l.flatMap (jq ty))) (by rw[r,O,wcv,m];exact .row N) (by simp only[TS.den];exact Ref.refl _) g (i g c)
 ·cases h;refine SOk.mem λW n F H g c=>?_;refine PE.mono (i g c) λp R⟨V,X⟩=>⟨by rw[V];simp only[TS.den],?_⟩
  rw[X];simp only[v6,wc3,BD.den,wcv,m]
 ·cases h
 ·cases h
 ·cases h
end
theorem wbu{Z:ZM}{H:PHeap}{V:Nm->Value}{w:World}{k m c off:Nat}{xs:List PV}{s d:Option Addr}(h:Rp Z H V w (.sl k xs) (.slice s m c))(v:∀y∈xs,y.cells.length=k)(t:off<=m)(E:m<=c)
  (f:(s=none/\d=none)\/∃b o,s=some ⟨b,0,none⟩/\d=some ⟨b,o,none⟩/\(o=off*k\/c=off)):Rp Z H V w (.sl k (xs.drop off)) (.slice d (m-off) (c-off)):=by
 cases h with
 |nil k a c=>
  rw[Nat.zero_sub,List.drop_nil];exact .nil _ _ _
 |sl k xs b o c g _ u hz D B C=>
  rcases f with⟨e,_⟩|⟨K,I,e,rfl,r⟩
  ·cases e
  ·cases e;by_cases h0:off=xs.length
   ·rw[h0,wd3,wfy];exact .nil _ _ _
   ·have F:I=off*k:=by rcases r with r|r;exact r;omega
    subst F;have n:(xs.drop off).flatMap PV.cells=(xs.flatMap PV.cells).drop (off*k):=by
     have x:xs.flatMap PV.cells=(xs.take off).flatMap PV.cells++(xs.drop off).flatMap PV.cells:=by rw[<- wex,wdq]
     have A:((xs.take off).flatMap PV.cells).length=off*k:=by
      have:∀(l:List PV),(∀y∈l,y.cells.length=k)->(l.flatMap PV.cells).length=l.length*k:=by
       intro l;induction l with
       |nil=>intro _;simp
       |cons y l G=>intro j;rw[wdd,wcu,G (λz hz=>j z (by simp[hz])),j y (by simp),wdy,wd6];omega
      rw[this _ λy j=>v y (wez j),wdl,wft t]
     rw[x,we1 A]
    have:=Rp.sl (Z:=Z) (H:=H) (V:=V) (w:=w) k (xs.drop off) b (off*k) (c-off) (λi=>g (off*k+i)) (λy j=>v y (we9 j)) (by rw[wdw];omega) hz D (λi p q=>by
     rw[n,wdv]at q;have:=B _ p q;rwa [wdo]at this) λi p q=>by
     rw[n,wdv]at q;exact C _ p q
    rwa [wdw]at this
theorem wbs{H:PHeap}{id:Nm}{ver off:Nat}{t:TypeId}{k n:Nat}{cs:List PV}(j:Jf H id ver=some (t,k,n,cs))(xs:List PV)(x:xs.length=n)(l:∀y∈xs,y.cells.length=k)
  (h:∀(i:Nat)(p q:PV),cs[i]?=some p->(xs.flatMap PV.cells)[i]?=some q->View H p q):View H (.qs id off k ver) (.sl k (xs.drop off)):=λP W V w z v A=>by
 obtain⟨s,f⟩:=zq j;cases A with
 |qs _ _ _ _ _ g u=>
  obtain⟨B,m,c,o,r,rfl,e,d,b⟩:=u (by rw[s];rfl) f;have a:=View.row j xs x l h P W V w z (V id) (.ps id ver _ g λ_ _=>rfl);rw[r]at a;exact wbu a l e d b
def zou{α:Type}(f:TS->Option α):List TS->Option (List α)
 |[]=>some []
 |x::b=>match f x with
  |none=>none
  |some a=>match zou f b with
   |none=>none
   |some l=>some (a::l)
mutual
def Jv(G:EG):(t:Ty)->TS->Option t.D
 |.int k,s=>Y3 (.int k) s
 |.bool,s=>Y3 .bool s
 |.str,s=>Y3 .str s
 |.sl t,s=>match s with
  |.own id a=>match Nat.beq (G id).ver a with
   |true=>match (G id).b with
    |some (.row _ f l)=>Dyn.as ⟨.sl f,l⟩ (.sl t)
    |some (.rowx _ k c)=>match Nat.beq k (wid t)with
     |true=>zou (Jv G t) c
     |false=>none
    |some (.rows _ _ f l _ none)=>Dyn.as ⟨.sl (.sl f),l⟩ (.sl t)
    |_=>none
   |false=>none
  |.q id k e a=>match Nat.beq (G id).ver a && Nat.beq k (wid t)with
   |true=>match (G id).b with
    |some (.row _ f l)=>match Dyn.as ⟨.sl f,l⟩ (.sl t)with
     |some l=>some (l.drop e)
     |none=>none
    |_=>none
   |false=>none
  |s=>Y3 (.sl t) s
 |.ref t,s=>match s with
  |.pt id e a=>match Nat.beq e 0 && Nat.beq (G id).ver a with
   |true=>match (G id).b with
    |some (.box _ c)=>match Jv G t (zct (Yc t) c)with
     |some x=>some (some x)
     |none=>none
    |_=>none
   |false=>none
  |.rd d=>match d.as t with
   |some x=>some (some x)
   |none=>none
  |s=>Y3 (.ref t) s
 |.nil,_=>none
 |.cons _ _,_=>none
 |.st r,s=>match Y3 (.st r) s with
  |some x=>some x
  |none=>match zdk s with
   |some c=>zgk G r c
   |none=>none
 |.arr n t,s=>match Y3 (.arr n t) s with
  |some x=>some x
  |none=>match zdk s with
   |some c=>jcn n (zja (Jv G t) (Yc t) (wid t) n c)
   |none=>none
 |.tup r,s=>match s with
  |.tup c=>zfl G r c
  |s=>Y3 (.tup r) s
def zgk(G:EG):(r:Ty)->List TS->Option r.D
 |.nil,[]=>some ()
 |.cons a r,b=>match Y8 512 (wid a) b with
  |none=>none
  |some q=>match Jv G a (zct (Yc a) q.1)with
   |none=>none
   |some x=>match zgk G r q.2 with
    |none=>none
    |some y=>some (x,y)
 |_,_=>none
def zfl(G:EG):(r:Ty)->List TS->Option r.D
 |.nil,[]=>some ()
 |.cons a r,x::b=>match Jv G a x with
  |none=>none
  |some p=>match zfl G r b with
   |none=>none
   |some y=>some (p,y)
 |_,_=>none
end
section
variable{H:PHeap}{G:EG}
theorem View.ref{p q r:PV}(h:View H p q)(a:Ref q r):View H p r:=λP W V w c v b=>a _ _ _ _ _ (h P W V w c v b)
theorem wa1{a b c d:List PV}(e:ViewL H a b)(h:ViewL H c d):ViewL H (a++c) (b++d):=⟨by simp[e.1,h.1],λi p q f g=>by
 by_cases j:i<a.length
 ·rw[wcr j]at f;rw[wcr (by rw[<- e.1];exact j)]at g;exact e.2 i p q f g
 ·rw[wct (by omega)]at f;rw[wct (by rw[<- e.1];omega),<- e.1]at g;exact h.2 _ p q f g⟩
def VOk(H:PHeap)(s:TS)(t:Ty)(x:t.D):Prop:=View H s.den (enc t x)/\ViewL H s.den.cells (jq t x)
theorem jjw{t:Ty}(x:t.D)(h:Yc t=false):jq t x=[enc t x]:=by
 have:=qa t x;rw[zfr h]at this;unfold enc mkV;rw[h]
 match a:jq t x,this with
 |[c],_=>rfl
theorem VOk.one{s:TS}{t:Ty}{x:t.D}(h:View H s.den (enc t x))(a:Yc t=false)(b:Yh s=false):VOk H s t x:=⟨h,by
 rw[Z6 b,jjw x a];exact ViewL.cons h (ViewL.nil H)⟩
theorem Yf{t:Ty}{s:TS}{x:t.D}(h:Y3 t s=some x):VOk H s t x:=by
 have e:NoP s.den/\∀c∈s.den.cells,NoP c:=by
  unfold Y3 at h;split at h
  ·simp only[TS.den];exact⟨zb7 _ _,λc a=>(zb7 _ _).cell a⟩
  ·simp only[TS.den];exact⟨zhm _,λc a=>(zhm _).cell a⟩
  ·cases h
 obtain⟨b,f⟩:=zas h;exact⟨View.ref (View.noP e.1) f,b.1,λi p q d g=>View.ref (View.noP (e.2 p (wck d))) (b.2 i p q d g)⟩
theorem zw2{t:Ty}{f:TS->Option t.D}(b:∀s x,f s=some x->VOk H s t x):∀{xs:List TS}{l:List t.D},zou f xs=some l->ViewL H (qd xs) (l.flatMap (jq t))/\l.length=xs.length
 |[],l,h=>by simp only[zou]at h;cases h;simp only[qd,wfx];exact⟨ViewL.nil H,rfl⟩
 |x::xs,l,h=>by
  simp only[zou]at h;split at h<;>try (cases h;done)
  rename_i a e;split at h<;>try (cases h;done)
  rename_i i g;cases h;obtain⟨c,d⟩:=zw2 b g;refine⟨?_,by simp[d]⟩;simp only[qd,wdd];exact wa1 (b _ _ e).2 c
theorem zl7(t:Ty):Jv G t .dead=none:=by cases t<;>simp[Jv,Y3,zdk,z1n,zr4]
theorem zu8{t:Ty}{f:TS->Option t.D}(i:∀s x,f s=some x->VOk H s t x)(g:f .dead=none):∀(n:Nat)(xs:List TS)(l:List t.D),zja f (Yc t) (wid t) n xs=some l->ViewL H (qd xs) (l.flatMap (jq t))
 |0,[],l,h=>by simp only[zja]at h;cases h;simp only[qd,wfx];exact ViewL.nil H
 |0,_::_,l,h=>by simp[zja]at h
 |n+1,xs,l,h=>by
  simp only[zja]at h;split at h<;>try (cases h;done)
  rename_i r m;split at h<;>try (cases h;done)
  rename_i a b;split at h<;>try (cases h;done)
  rename_i o k;cases h;obtain⟨j,p⟩:=Q3 _ _ _ _ m;have c:zct (Yc t) r.1 ≠ .dead:=λe=>by rw[e,g]at b;cases b
  have d:=(i _ _ b).2;rw[Z0 c]at d;rw[wdd,<- j];exact wa1 d (zu8 i g n r.2 o k)
theorem wa8{s:TS}{xs:List TS}{t:Ty}{x:t.D}(b:zdk s=some xs)(a:Yc t=true)(h:ViewL H (qd xs) (jq t x)):VOk H s t x:=by
 unfold VOk;rw[zgq b];refine⟨?_,h⟩;unfold enc mkV;rw[a];exact View.agg h.1 h.2
theorem jij{H:PHeap}{id:Nm}{ver:Nat}{tid:TypeId}{t:Ty}{l:List t.D}(h:Jf H id ver=some (tid,wid t,l.length,l.flatMap (jq t))):View H (.ps id ver) (enc (.sl t) l):=by
 rw[zht];refine View.row h _ (by simp) (λy c=>?_) λi p q a b=>?_
 ·obtain⟨z,_,rfl⟩:=wcz.1 c;rw[enc_cells,qa]
 ·rw[Yg,a]at b;cases b;obtain⟨z,_,hz⟩:=wds.1 (wck a);exact View.noP (yg _ _ _ hz)
theorem jf3{id ver kv:Nat}{tid it:TypeId}{t:Ty}{l:List (List t.D)}(a:AgN H G id)(g:(G id).b=some (.rows tid it t l kv none))(j:(G id).ver=ver):View H (.ps (.o id) ver) (enc (.sl (.sl t)) l):=by
 rw[zht];refine View.row (n:=l.length) (zl a.1 g rfl j) _ (by simp) (λy k=>?_) λi p q d f=>?_
 ·obtain⟨z,_,rfl⟩:=wcz.1 k;rw[enc_cells,qa];rfl
 ·have e:l.flatMap (jq (.sl t))=l.map (enc (.sl t)):=by
   rw[List.map_eq_flatMap];rfl
  rw[Yg,e,wcp]at f;obtain⟨r,h,rfl⟩:=wcs.1 f;have c:=(wcg.1 h).1;simp only[wcp,List.getElem?_range c,wc3,wdn]at d;subst d;refine jij (tid:=it) ?_;unfold Jf;rw[a.2 i];simp only[zac,g,wdr,BD.ch,Hole.is,h,wc3,if_true]
mutual
theorem Yb(j:∀id,(G id).b.isSome=true->AgN H G id):∀(t:Ty)(s:TS)(x:t.D),Jv G t s=some x->VOk H s t x
 |.int k,s,x,h=>Yf (by simpa only [Jv]using h)
 |.bool,s,x,h=>Yf (by simpa only [Jv]using h)
 |.str,s,x,h=>Yf (by simpa only [Jv]using h)
 |.sl t,s,x,h=>by
  simp only[Jv]at h;split at h
  ·rename_i _ id B;split at h<;>try (cases h;done)
   rename_i f;have f:=wcj f;split at h
   ·rename_i m N l c;have:=wag h;injection this with e1 v
    injection e1 with e1
    subst e1;have v:=eq_of_heq v;subst v;refine VOk.one ?_ rfl rfl;simp only[TS.den];rw[zht];refine View.row (zl (j id (by rw[c];rfl)).1 c rfl f) _ (by simp) (λy g=>?_) λi p q a A=>?_
    ·obtain⟨z,_,rfl⟩:=wcz.1 g;rw[enc_cells,qa]
    ·rw[Yg,a]at A;cases A;obtain⟨z,_,hz⟩:=wds.1 (wck a);exact View.noP (yg _ _ _ hz)
   ·rename_i m k C c;split at h<;>try (cases h;done)
    rename_i u;have u:=wcj u;obtain⟨a,A⟩:=zw2 (λs x=>Yb j t s x) h;refine VOk.one ?_ rfl rfl;simp only[TS.den];rw[zht,<- u];refine View.row (zl (j id (by rw[c];rfl)).1 c rfl f) _ (by simp[A]) (λy g=>?_) λi p q E F=>?_
    ·obtain⟨z,_,rfl⟩:=wcz.1 g;rw[enc_cells,qa,u]
    ·rw[Yg]at F;exact a.2 i p q E F
   ·rename_i m P N l kv c;cases wag h;refine VOk.one ?_ rfl rfl;simp only[TS.den];exact jf3 (j id (by rw[c];rfl)) c f
   ·cases h
  ·rename_i _ id k M B;split at h<;>try (cases h;done)
   rename_i f;simp only[wcl]at f;obtain⟨w,u⟩:=f;have u:=wcj u;have w:=wcj w;subst u;split at h<;>try (cases h;done)
   rename_i m N l c;split at h<;>cases h;rename_i Q O;have:=wag O;injection this with e1 v
   injection e1 with e1
   subst e1;have v:=eq_of_heq v;subst v;refine VOk.one ?_ rfl rfl;simp only[TS.den];rw[zht,List.map_drop];refine wbs (zl (j id (by rw[c];rfl)).1 c rfl w) _ (by simp) (λy g=>?_) λi p q a A=>?_
   ·obtain⟨z,_,rfl⟩:=wcz.1 g;rw[enc_cells,qa]
   ·rw[Yg,a]at A;cases A;obtain⟨z,_,hz⟩:=wds.1 (wck a);exact View.noP (yg _ _ _ hz)
  ·exact Yf h
 |.ref t,s,x,h=>by
  simp only[Jv]at h;split at h
  ·rename_i _ id M B;split at h<;>try (cases h;done)
   rename_i f;simp only[wcl]at f;obtain⟨I,w⟩:=f;have I:=wcj I;have w:=wcj w;subst I;split at h<;>try (cases h;done)
   rename_i m C c;split at h<;>cases h;rename_i y g;have K:zct (Yc t) C ≠ .dead:=λe=>by rw[e,zl7]at g;cases g
   have a:=(Yb j t _ y g).2;rw[Z0 K]at a;refine VOk.one ?_ rfl rfl;simp only[TS.den];show View H (.pp (.o id) 0 B) (.rp (jq t y));exact View.pp (J9 (j id (by rw[c];rfl)).1 c w) (by rw[wdo];exact a.1) λi p q E F=>a.2 i p q (by rw[wdo]at E;exact E) F
  ·rename_i _ d;split at h<;>cases h;rename_i y g;have:=wag g;subst this;refine VOk.one ?_ rfl rfl;simp only[TS.den];exact View.noP (.rp _ (yg _ _))
  ·exact Yf h
 |.nil,s,x,h=>by simp[Jv]at h
 |.cons _ _,s,x,h=>by simp[Jv]at h
 |.st r,s,x,h=>by
  simp only[Jv]at h;split at h
  ·cases h;exact Yf (by assumption)
  ·split at h<;>try (cases h;done)
   rename_i C L;exact wa8 L rfl (z7x j r C x h)
 |.arr n t,s,x,h=>by
  simp only[Jv]at h;split at h
  ·cases h;exact Yf (by assumption)
  ·split at h<;>try (cases h;done)
   rename_i C L;exact wa8 L rfl (zu8 (λs x=>Yb j t s x) (zl7 t) _ _ _ (zwj h))
 |.tup r,s,x,h=>by
  simp only[Jv]at h;split at h
  ·rename_i _ C;have a:=z6e j r C x h;refine VOk.one ?_ rfl rfl;simp only[TS.den];exact View.tup a.1 a.2
  ·exact Yf h
theorem z7x(g:∀id,(G id).b.isSome=true->AgN H G id):∀(r:Ty)(xs:List TS)(x:r.D),zgk G r xs=some x->ViewL H (qd xs) (jq r x)
 |.nil,xs,x,h=>by
  cases xs with
  |nil=>simp only[qd,jq];exact ViewL.nil H
  |cons _ _=>simp[zgk]at h
 |.cons a r,xs,x,h=>by
  simp only[zgk]at h;split at h<;>try (cases h;done)
  rename_i q j;split at h<;>try (cases h;done)
  rename_i p d;split at h<;>try (cases h;done)
  rename_i y l;cases h;obtain⟨i,m⟩:=Q3 _ _ _ _ j;have c:zct (Yc a) q.1 ≠ .dead:=λe=>by rw[e,zl7]at d;cases d
  have f:=(Yb g a _ _ d).2;rw[Z0 c]at f;simp only[jq];rw[<- i];exact wa1 f (z7x g r q.2 y l)
 |.int k,xs,x,h=>by simp[zgk]at h
 |.bool,xs,x,h=>by simp[zgk]at h
 |.str,xs,x,h=>by simp[zgk]at h
 |.sl t,xs,x,h=>by simp[zgk]at h
 |.ref t,xs,x,h=>by simp[zgk]at h
 |.st r,xs,x,h=>by simp[zgk]at h
 |.arr n t,xs,x,h=>by simp[zgk]at h
 |.tup r,xs,x,h=>by simp[zgk]at h
theorem z6e(c:∀id,(G id).b.isSome=true->AgN H G id):∀(r:Ty)(xs:List TS)(x:r.D),zfl G r xs=some x->ViewL H (yo xs) (ye r (jq r x))
 |.nil,xs,x,h=>by
  cases xs with
  |nil=>simp only[yo,ye];exact ViewL.nil H
  |cons _ _=>simp[zfl]at h
 |.cons a r,xs,x,h=>by
  cases xs with
  |nil=>simp[zfl]at h
  |cons z xs=>
   simp only[zfl]at h;split at h<;>try (cases h;done)
   rename_i p e;split at h<;>try (cases h;done)
   rename_i y f;cases h;simp only[yo,jq,ye];have d:=qa a p;rw[wfh d,we1 d];exact ViewL.cons (Yb c a z p e).1 (z6e c r xs y f)
 |.int k,xs,x,h=>by simp[zfl]at h
 |.bool,xs,x,h=>by simp[zfl]at h
 |.str,xs,x,h=>by simp[zfl]at h
 |.sl t,xs,x,h=>by simp[zfl]at h
 |.ref t,xs,x,h=>by simp[zfl]at h
 |.st r,xs,x,h=>by simp[zfl]at h
 |.arr n t,xs,x,h=>by simp[zfl]at h
 |.tup r,xs,x,h=>by simp[zfl]at h
end
end
def pvs(ds:List Dyn):List PV:=ds.map Dyn.pv
def jed(ds:List Dyn):EF:=λs=>match ds[s]? with
 |some d => .v d
 |none=>UND
def z7k(P:Program)(E:EF)(G:EG):ResultVar->Option TS
 |.tmp t=>some (E t)
 |.cell a t=>match asz P t with
  |none=>none
  |some (e,k)=>match E a with
   |.pt id c d=>match Nat.beq (G id).ver d with
    |true=>match (G id).b with
     |some (.box _ f)=>ldT e k c f
     |_=>none
    |false=>none
   |_=>none
def z1h(P:Program)(E:EF)(G:EG):List ResultVar->Option (List TS)
 |[]=>some []
 |r::a=>match z7k P E G r with
  |none=>none
  |some x=>match z1h P E G a with
   |none=>none
   |some b=>some (x::b)
def zte(P:Program)(a:List ResultVar)(E:EF)(G:EG):Option TS:=match a with
 |[r]=>z7k P E G r
 |l=>match z1h P E G l with
  |some b=>some (.tup b)
  |none=>none
section
variable{P:Program}{E:EF}{G:EG}{R:PHeap}
theorem z6c{r:ResultVar}{s:TS}(h:z7k P E G r=some s):∃q,zif P (qn G R) (zh E) r=some q/\Ref q s.den:=by
 cases r with
 |tmp t=>simp only[z7k]at h;cases h;exact⟨_,rfl,Ref.refl _⟩
 |cell a t=>
  simp only[z7k]at h;split at h<;>try (cases h;done)
  rename_i m k b;split at h<;>try (cases h;done)
  rename_i id i l f;split at h<;>try (cases h;done)
  rename_i c;have c:=wcj c;split at h<;>try (cases h;done)
  rename_i j n g;obtain⟨⟨p,d,e⟩,_⟩:=zmd h;refine⟨p,?_,e⟩;show za0 P (qn G R) t (E a).den=some p;rw[f];simp only[TS.den];unfold za0;rw[b];simp only;rw[J9 (H:=qn G R) rfl g c];exact d
theorem z6a:∀{b:List ResultVar}{xs:List TS},z1h P E G b=some xs->∃qs,b.mapM (zif P (qn G R) (zh E))=some qs/\RefL qs (yo xs)
 |[],xs,h=>by simp only[z1h]at h;cases h;exact⟨[],rfl,by simp only[yo];exact RefL.nil⟩
 |r::b,xs,h=>by
  simp only[z1h]at h;split at h<;>try (cases h;done)
  rename_i x g;split at h<;>cases h;rename_i i a;obtain⟨q,c,d⟩:=z6c (R:=R) g;obtain⟨qs,e,f⟩:=z6a a;refine⟨q::qs,?_,by simp only[yo];exact RefL.cons d f⟩;rw[we6,c,e];rfl
theorem z5i{fn:Func}{s:TS}(h:zte P fn.results.toList E G=some s):∃q,z9n P fn (zh E) (qn G R)=some q/\Ref q s.den:=by
 unfold zte at h;unfold z9n;generalize fn.results.toList=l at h;have a:∀{l:List ResultVar},(match z1h P E G l with
   |some c=>some (TS.tup c)
   |none=>none)=some s->∃q,(l.mapM (zif P (qn G R) (zh E))).map .tup=some q/\Ref q s.den:=λ{l}h=>by
  split at h<;>cases h;rename_i c b;obtain⟨qs,d,e⟩:=z6a (R:=R) b;exact⟨.tup qs,by rw[d];rfl,by simp only[TS.den];exact Ref.tup e⟩
 match l,h with
 |[],h=>exact a h
 |[r],h=>exact z6c h
 |_::_::_,h=>exact a h
end
def funP(P:Program)(b:SyT)(hint:Nat->Option HK)(n:Nat)(a:List ResultVar)(c:Code)(ats:List Ty)(rt:Ty)(nn:Nat)(t:DL ats):Option rt.D:=
 q7 b nn hint 0 0 n c 1 0 (jed (zu ats t)) EG.empty λe _ E G=>match e with
  |.normal=>match zte P a E G with
   |some s=>Jv G rt s
   |none=>none
  |.ret=>match zte P a E G with
   |some s=>Jv G rt s
   |none=>none
  |_=>none
def z30(P:Program)(f:FuncId)(ats:List Ty)(rt:Ty)(g:DL ats->Option rt.D):Prop:=
 V9 P f=true/\∀t r,g t=some r->PCall P f (pvs (zu ats t)) (· = enc rt r)
def R0:PHeap:=λ_=>⟨0,none⟩
theorem z06:qn EG.empty R0=PHeap.empty:=by
 funext k;cases k<;>rfl
theorem wax{P:Program}{f:FuncId}{fn:Func}{c:Code}{b:List PV}{R:PV->Prop}(s:P.funcs[f]?=some fn)(o:fn.body=some c)(t:b.length<=fn.ntmps)
  (h:∀W:Env,(∀i,W.G i=.unk)->PC P W fn.ntmps c (zi6 b) PHeap.empty λe F H=>(e=.normal\/e=.ret)/\∃q p,z9n P fn F H=some q/\View H q p/\NoP p/\R p):PCall P f b R:=λZ w C hz g n=>by
 refine calls_of_wp s o (h { w:=w,Z:=Z,hm:=g } (λ_=>rfl) V0 _ w _ (Rel.enter hz g n t) λe z A m B y⟨r,q,p,u,x,k,l⟩ d=>?_);obtain⟨v,a,j⟩:=zu9 d u;have:=x P _ m y d.heap v j;rcases r with rfl|rfl
 ·exact⟨d.defers,v,a,v,p,rfl,l,k,this,d.heap.below⟩
 ·exact⟨d.defers,v,a,v,p,rfl,l,k,this,d.heap.below⟩
theorem zwz(ds:List Dyn):zi6 (pvs ds)=zh (jed ds):=by
 funext t;unfold zi6 zh jed pvs;rw[wcp];cases ds[t]? with
 |none=>simp only[Option.map_none,Option.getD_none];exact und_den.symm
 |some d=>simp only[wc3,wda,TS.den];rfl
theorem zyc:∀(ts:List Ty)(t:DL ts),(zu ts t).length=ts.length
 |[],_=>rfl
 |[t],_=>rfl
 |t::u::ts,x=>by simp only[zu,wdy,zyc (u::ts)]
theorem jmv{P:Program}{B:SyT}(x:zw3 P B)(hm:P.follows .mixedOrders=true){hint:Nat->Option HK}{n:Nat}{A:List ResultVar}{c:Code}{ats:List Ty}{rt:Ty}{nn:Nat}{f:FuncId}{fn:Func}(K:P.funcs[f]?=some fn)(I:fn.body=some c)(N:fn.ntmps=n)(Q:fn.results.toList=A)(M:Nat.ble ats.length n=true)(L:V9 P f=true):z30 P f ats rt (funP P B hint n A c ats rt nn):=by
 subst N;subst Q;refine⟨L,λt r h=>?_⟩;have l:(pvs (zu ats t)).length<=fn.ntmps:=by unfold pvs;rw[wcv,zyc];exact wd2 M
 refine wax K I l λW G=>?_;have F:RestOk 0 R0:=λi Y h=>by cases h
 have k:GhOk 0 W:=λi=>by rw[G];exact .unk
 obtain⟨e,Z,z,a,g,_,m⟩:=y5 (P:=P) (fuel:=nn) (hint:=hint) (ctx:=0) (n:=fn.ntmps) (b:=0) hm x c 1 0 (jed (zu ats t)) EG.empty _ r h;have this:=m W R0 k F;rw[z06]at this;rw[zwz];refine PC.mono this λC U X⟨h0,D,E⟩=>?_;subst h0;subst D;subst E;have d:∀{o:Option TS},o=zte P fn.results.toList z a->(match o with
   |some s=>Jv a rt s
   |none=>none)=some r->∃q p,z9n P fn (zh z) (qn a R0)=some q/\View (qn a R0) q p/\NoP p/\p=enc rt r:=λ{o}m h=>by
  cases o with
  |none=>cases h
  |some s=>
   simp only at h;obtain⟨q,O,u⟩:=z5i (R:=R0) m.symm;have S:=(Yb (H:=qn a R0) (λid _=>⟨rfl,λj=>rfl⟩) rt s r h).1;exact⟨q,_,O,λP W V w T v y=>S P W V w T v (u _ _ _ _ _ y),zb7 _ _,rfl⟩
 cases C with
 |normal=>exact⟨.inl rfl,d rfl g⟩
 |ret=>exact⟨.inr rfl,d rfl g⟩
 |_=>cases g
structure PF where
 ats:List Ty
 rt:Ty
 g:DL ats->Option rt.D
abbrev z9s:=FuncId->Option PF
def Vw(P:Program)(S:z9s):Prop:=∀f x,S f=some x->z30 P f x.ats x.rt x.g
def z2z(E:EF)(c:Call):Option (FuncId×List TS):=match c.callee with
 |.value x=>match evE E x with
  |.fn (.func f) a b=>some (f,a++c.args.toList.map (evE E)++b)
  |_=>none
 |_=>none
mutual
def zxi:TS->Bool
 |.v _=>true
 |.c _=>true
 |.rd _=>true
 |.fn _ a b=>zr1 a && zr1 b
 |.agg d=>zr1 d
 |.tup d=>zr1 d
 |_=>false
def zr1:List TS->Bool
 |[]=>true
 |x::a=>zxi x && zr1 a
end
mutual
theorem jdc:∀s:TS,zxi s=true->NoP s.den
 |.v d,h=>by simp only[TS.den];exact zb7 _ _
 |.c v,h=>by simp only[TS.den];exact zhm v
 |.rd d,h=>by simp only[TS.den];exact .rp _ (yg _ _)
 |.fn f a b,h=>by
  simp only[zxi,wcl]at h;simp only[TS.den];exact .fn _ _ _ (zgl a h.1).1 (zgl b h.2).1
 |.agg e,h=>by
  simp only[zxi]at h;simp only[TS.den];exact .agg _ (zgl e h).2
 |.tup e,h=>by
  simp only[zxi]at h;simp only[TS.den];exact .tup _ (zgl e h).1
 |.own _ _,h=>by simp[zxi]at h
 |.q _ _ _ _,h=>by simp[zxi]at h
 |.pt _ _ _,h=>by simp[zxi]at h
 |.elt _ _ _ _ _,h=>by simp[zxi]at h
 |.dead,h=>by simp[zxi]at h
theorem zgl:∀b:List TS,zr1 b=true->(∀p∈yo b,NoP p)/\∀p∈qd b,NoP p
 |[],_=>⟨λp a=>by simp[yo]at a,λp a=>by simp[qd]at a⟩
 |x::b,h=>by
  simp only[zr1,wcl]at h;have c:=jdc x h.1;obtain⟨d,e⟩:=zgl b h.2;refine⟨λp a=>?_,λp a=>?_⟩
  ·simp only[yo,wc1]at a;rcases a with rfl|a
   ·exact c
   ·exact d p a
  ·simp only[qd,wco]at a;rcases a with a|a
   ·exact c.cell a
   ·exact e p a
end
def zh0:(ts:List Ty)->List TS->Option (DL ts)
 |[],[]=>some ()
 |[t],[x]=>toT t x
 |t::u::ts,x::c=>match toT t x with
  |none=>none
  |some a=>match zh0 (u::ts) c with
   |none=>none
   |some b=>some (a,b)
 |_,_=>none
theorem z0y:∀{ts:List Ty}{xs:List TS}{t:DL ts},zh0 ts xs=some t->RefL (yo xs) (pvs (zu ts t))
 |[],xs,t,h=>by
  cases xs with
  |nil=>simp only[yo];exact RefL.nil
  |cons _ _=>simp[zh0]at h
 |[a],xs,t,h=>by
  match xs,h with
  |[x],h=>
   simp only[zh0]at h;simp only[yo];exact RefL.cons (zbt _ _ _ h).2 RefL.nil
  |[],h=>simp[zh0]at h
  |_::_::_,h=>simp[zh0]at h
 |a::u::ts,xs,t,h=>by
  cases xs with
  |nil=>simp[zh0]at h
  |cons x xs=>
   simp only[zh0]at h;split at h<;>try (cases h;done)
   rename_i p b;split at h<;>cases h;rename_i q c;simp only[yo];exact RefL.cons (zbt _ _ _ b).2 (z0y c)
def jka(S:z9s)(E:EF)(c:Call):Option SR:=match z2z E c with
 |none=>none
 |some (f,a)=>match S f with
  |none=>none
  |some x=>match zr1 a with
   |true=>match zh0 x.ats a with
    |some t=>some (.vo x.rt (x.g t))
    |none=>none
   |false=>none
section
variable{P:Program}{o:Oper}{E:EF}{G:EG}{rd:List Nat}{F:PFrame}{H:PHeap}{W:Env}
theorem znn{c:Call}{f:FuncId}{j:List TS}(l:o.op=.call c)(d:Agr o E G rd F H)(h:z2z E c=some (f,j)):zb2 F c=some (f,yo j):=by
 unfold z2z at h;unfold zb2;split at h
 ·rename_i x k;rw[k];simp only;have m:evP F x=(evE E x).den:=d.ev (by rw[l];simp[Op.operands,Call.operands,k]);split at h
  ·rename_i g a b i;cases h;rw[m,i];have e:c.args.toList.map (evP F)=yo (c.args.toList.map (evE E)):=by
    rw[zep,wd8];exact weo λy n=>d.ev (by rw[l];simp only[Op.operands,Call.operands,Array.mem_append];exact .inr (by simpa using n))
   simp only[TS.den,z6u,e]
  ·cases h
 ·cases h
theorem jjx{S:z9s}(m:Vw P S){c:Call}{q:SR}(k:o.op=.call c)(h:jka S E c=some q):SOk P o E G q:=by
 unfold jka at h;split at h<;>try (cases h;done)
 rename_i f g w;split at h<;>try (cases h;done)
 rename_i x z;split at h<;>try (cases h;done)
 rename_i u;split at h<;>cases h;rename_i t e;obtain⟨s,n⟩:=m f x z;refine SOk.vo λr v W F H d=>?_;have a:=(zgl g u).1;have b:=z0y e;have y:ViewL PHeap.empty (yo g) (pvs (zu x.ats t)):=⟨b.1,λi p q j l=>View.ref (View.noP (a p (wck j))) (b.2 i p q j l)⟩
 exact wb6 k (znn k d w) s y a (n t r v)
end
mutual
def idvT:TS->List (Nat×Nat)
 |.own id c=>[(id,c)]
 |.q id _ _ c=>[(id,c)]
 |.pt id _ c=>[(id,c)]
 |.elt id _ _ _ c=>[(id,c)]
 |.kid id _ v=>[(id,v)]
 |.kel id _ _ _ _ v=>[(id,v)]
 |.fn _ a b=>zil a++zil b
 |.agg d=>zil d
 |.tup d=>zil d
 |_=>[]
def zil:List TS->List (Nat×Nat)
 |[]=>[]
 |x::a=>idvT x++zil a
end
def zcb(G:EG):List (Nat×Nat)->List Nat
 |[]=>[]
 |x::r=>match (Nat.beq x.2 (G x.1).ver ||Nat.beq x.2 (G x.1).cv) && (G x.1).b.isSome with
  |true=>x.1::zcb G r
  |false=>zcb G r
def idsB:Option BD->List (Nat×Nat)
 |some (.rowx _ _ a)=>zil a
 |some (.box _ a)=>zil a
 |_=>[]
def zro(G:EG):Nat->List Nat->List Nat->Option (List Nat)
 |0,_,_=>none
 |m+1,[],a=>some a
 |m+1,i::t,a=>match zky a i with
  |true=>zro G m t a
  |false=>zro G m (zcb G (idsB (G i).b)++t) (a++[i])
theorem zgt{l:List Nat}{x:Nat}:zky l x=true↔x∈l:=by
 unfold zky;rw[wep];constructor
 ·rintro⟨y,h,e⟩;rw[qc e];exact h
 ·exact λh=>⟨x,h,wev x⟩
def Zj(D:List Nat)(G:EG):EG:=λid=>match zky D id with
 |true=>G id
 |false=>⟨(G id).ver,none⟩
mutual
def scT:Ty->Bool
 |.int _=>true
 |.bool=>true
 |.str=>true
 |.arr _ t=>scT t
 |.nil=>true
 |.cons a r=>scT a && scT r
 |.st r=>scT r
 |.tup r=>scT r
 |_=>false
end
theorem zi4{D:List Nat}{G:EG}{H:PHeap}(h:∀id∈D,AgN H G id):∀id,((Zj D G) id).b.isSome=true->AgN H (Zj D G) id:=λid c=>by
 cases a:zky D id with
 |true=>
  have e:Zj D G id=G id:=by unfold Zj;rw[a]
  unfold AgN;rw[e];exact h id (zgt.1 a)
 |false=>unfold Zj at c;rw[a]at c;simp at c
theorem jg1{t:Ty}{cs:List PV}(a:cs.length=wid t)(h:∀c∈cs,Sc c):Sc (mkV t cs):=by
 unfold mkV;cases b:Yc t with
 |true=>exact .agg _ h
 |false=>
  rw[zfr b]at a
  match cs,a with
  |[c],_=>exact h c (by simp)
mutual
theorem zh4:∀(t:Ty)(x:t.D),scT t=true->∀c∈jq t x,Sc c
 |.int k,x,h,c,b=>by simp only[jq,wci]at b;subst b;exact .u _
 |.bool,x,h,c,b=>by simp only[jq,wci]at b;subst b;exact .u _
 |.str,x,h,c,b=>by simp only[jq,wci]at b;subst b;exact .u _
 |.sl _,x,h,c,b=>by simp[scT]at h
 |.ref _,x,h,c,b=>by simp[scT]at h
 |.arr n t,x,h,c,b=>by
  simp only[scT]at h;simp only[jq]at b;obtain⟨y,_,d⟩:=wds.1 b;exact zh4 t y h c d
 |.nil,x,h,c,b=>by simp[jq]at b
 |.cons a r,x,h,c,b=>by
  simp only[scT,wcl]at h;simp only[jq,wco]at b;rcases b with b|b
  ·exact zh4 a x.1 h.1 c b
  ·exact zh4 r x.2 h.2 c b
 |.st r,x,h,c,b=>by
  simp only[scT]at h;simp only[jq]at b;exact zh4 r x h c b
 |.tup r,x,h,c,b=>by
  simp only[scT]at h;simp only[jq,wci]at b;subst b;exact .tup _ (z11 r x h)
theorem z11:∀(r:Ty)(x:r.D),scT r=true->∀p∈ye r (jq r x),Sc p
 |.int k,x,h,c,b=>by simp[ye]at b
 |.bool,x,h,c,b=>by simp[ye]at b
 |.str,x,h,c,b=>by simp[ye]at b
 |.sl _,x,h,c,b=>by simp[ye]at b
 |.ref _,x,h,c,b=>by simp[ye]at b
 |.arr n t,x,h,c,b=>by simp[ye]at b
 |.nil,x,h,c,b=>by simp[ye]at b
 |.st r,x,h,c,b=>by simp[ye]at b
 |.tup r,x,h,c,b=>by simp[ye]at b
 |.cons a r,x,h,c,b=>by
  simp only[scT,wcl]at h;simp only[ye,jq]at b;rw[wfh (qa a x.1),we1 (qa a x.1)]at b;rcases wc1.1 b with rfl|b
  ·exact jg1 (qa a x.1) (zh4 a x.1 h.1)
  ·exact z11 r x.2 h.2 c b
end
def rdV(G:EG):(ts:List Ty)->List TS->Option (DL ts)
 |[],[]=>some ()
 |[t],[x]=>Jv G t x
 |t::u::ts,x::c=>match Jv G t x with
  |none=>none
  |some a=>match rdV G (u::ts) c with
   |none=>none
   |some b=>some (a,b)
 |_,_=>none
theorem jaf{G:EG}{H:PHeap}(c:∀id,(G id).b.isSome=true->AgN H G id):∀{ts:List Ty}{xs:List TS}{t:DL ts},rdV G ts xs=some t->ViewL H (yo xs) (pvs (zu ts t))
 |[],xs,t,h=>by
  cases xs with
  |nil=>simp only[yo];exact ViewL.nil H
  |cons _ _=>simp[rdV]at h
 |[a],xs,t,h=>by
  match xs,h with
  |[x],h=>
   simp only[rdV]at h;simp only[yo];exact ViewL.cons (Yb c _ _ _ h).1 (ViewL.nil H)
  |[],h=>simp[rdV]at h
  |_::_::_,h=>simp[rdV]at h
 |a::u::ts,xs,t,h=>by
  cases xs with
  |nil=>simp[rdV]at h
  |cons x xs=>
   simp only[rdV]at h;split at h<;>try (cases h;done)
   rename_i p d;split at h<;>cases h;rename_i q e;simp only[yo];exact ViewL.cons (Yb c _ _ _ d).1 (jaf c e)
def z9l(S:z9s)(E:EF)(G:EG)(c:Call):Option SR:=match z2z E c with
 |none=>none
 |some (f,a)=>match S f with
  |none=>none
  |some x=>match scT x.rt with
   |false=>none
   |true=>match zro G 1000 (zcb G (zil a)) []with
    |none=>none
    |some D=>match rdV (Zj D G) x.ats a with
     |some t=>some (.dat x.rt.D (x.g t) (λy=> .v ⟨x.rt,y⟩) D)
     |none=>none
theorem jf6{P:Program}{o:Oper}{E:EF}{G:EG}{S:z9s}(g:Vw P S){c:Call}{q:SR}(e:o.op=.call c)(h:z9l S E G c=some q):SOk P o E G q:=by
 unfold z9l at h;split at h<;>try (cases h;done)
 rename_i f p l;split at h<;>try (cases h;done)
 rename_i x n;split at h<;>try (cases h;done)
 rename_i d;split at h<;>try (cases h;done)
 rename_i D s;split at h<;>cases h;rename_i t b;obtain⟨j,i⟩:=g f x n;refine SOk.dat λr k W F H a=>?_;have m:=jaf (H:=H) (zi4 a.hn) b;simp only[TS.den];exact wb7 e (znn e a l) j m (i t r k) (jg1 (qa _ _) (zh4 _ _ d))
structure Prm where
 bd:Nat->Bool
 lit:Nat->Option LK
 zt:ZT
 zt2:ZT
 zy:ZY
 S:z9s
def ztOf{α:Type}(pr:Prm)(l:List α):ZT:=match l with
 |[]=>pr.zt
 |_=>pr.zt2
def zw5(o:Oper):Nat:=match o.dst with
 |some d=>d
 |none=>0
def tySt:TS->Option Ty
 |.v ⟨.st r,_⟩=>some r
 |_=>none
def orT(a b:Option Ty):Option Ty:=match a with
 |some t=>some t
 |none=>b
def jip(P:Program)(bd:Bool)(a:BinOp)(t:TypeId)(x y:Operand)(E:EF)(G:EG):Option SR:=match y with
 |.const (.slice none 0 0)=>match zak P t with
  |true=>jhz a (evE E x)
  |false=>none
 |.const (.pointer none)=>match jc2 P t with
  |true=>jhi bd a G (evE E x)
  |false=>none
 |.const .nilFunc=>match P.underlying t with
  |some (.func _ _ _)=>match evE E x with
   |.fn _ _ _=>match znq a false with
    |some b=>some (.now (.c (.bool b)) [])
    |none=>none
   |.c .nilFunc=>match znq a true with
    |some b=>some (.now (.c (.bool b)) [])
    |none=>none
   |_=>none
  |_=>none
 |y=>match zl9 P t y with
  |false=>none
  |true=>match P.underlying t with
   |some (.int k)=>sInt bd k a (evE E x) (evE E y)
   |some .bool=>jj4 bd a (evE E x) (evE E y)
   |some .string=>sStr bd a (evE E x) (evE E y)
   |some (.struct _)=>match orT (tySt (evE E x)) (tySt (evE E y))with
    |some r=>sEqS bd (eqS P t) (P.eqGuardType P.depth t) a r E x y
    |none=>none
   |some (.array n e)=>match P.underlying e with
    |some (.int k)=>match asz P e with
     |some (false,1)=>sEqA bd (P.eqGuardType P.depth t) a n k E x y
     |_=>none
    |_=>none
   |_=>none
def z96(P:Program)(pr:Prm)(b:Nat)(o:Oper)(c:Call)(E:EF)(G:EG):Option SR:=match c with
 |⟨.builtin .len,⟨[x]⟩,⟨[t]⟩⟩=>match zak P t with
  |true=>jav (pr.bd (zw5 o)) true G (evE E x)
  |false=>match zc3 P t with
   |true=>jav (pr.bd (zw5 o)) false G (evE E x)
   |false=>none
 |⟨.builtin .append,⟨[s,x]⟩,⟨[t,e]⟩⟩=>match Nat.beq t e with
  |true=>sApp (Jy P t) o G b (evE E s) (evE E x)
  |false=>none
 |⟨.builtin .min,⟨[x,y]⟩,_⟩=>jld (pr.bd (zw5 o)) false (evE E x) (evE E y)
 |⟨.builtin .max,⟨[x,y]⟩,_⟩=>jld (pr.bd (zw5 o)) true (evE E x) (evE E y)
 |⟨.value f,a,d⟩=>match jka pr.S E ⟨.value f,a,d⟩with
  |some q=>some q
  |none=>z9l pr.S E G ⟨.value f,a,d⟩
 |_=>none
abbrev Sy1:=Nat->Nat->Nat->Oper->EF->EG->Option SR
def jdg(P:Program)(pr:Prm):Sy1:=λn g m o E G=>match o.op with
 |.move x=>some (.now (evE E x) [])
 |.assign x=>some (.now (evE E x) [])
 |.pick c x y=>jkf (pr.bd (zw5 o)) (evE E c) (evE E x) (evE E y)
 |.binOp r t x y _=>jip P (pr.bd (zw5 o)) r t x y E G
 |.unOp .not _ x=>sNot (pr.bd (zw5 o)) (evE E x)
 |.convert s d x=>match (zmq P s).isSome with
  |true=>match zmq P d with
   |some k=>joz (pr.bd (zw5 o)) k (evE E x)
   |none=>none
  |false=>none
 |.extract x i=>sExt (evE E x) i
 |.call c=>z96 P pr g o c E G
 |.indexAddr t x i=>sIdx (esz P t) (arr P t) G (evE E x) (evE E i)
 |.index t x i=>match zc3 P t with
  |true=>jow (evE E x) (evE E i)
  |false=>none
 |.fieldAddr s x f=>match fof P s f with
  |some (j,l)=>match asz P l with
   |some (h,k)=>sFld j k h G (evE E x)
   |none=>none
  |none=>none
 |.field s x f=>match fof P s f with
  |some (j,l)=>match asz P l with
   |some (h,k)=>sFie j k h (evE E x)
   |none=>none
  |none=>none
 |.load t x=>match asz P t with
  |some (h,k)=>sLd h k G (evE E x)
  |none=>none
 |.store t x y=>match asz P t with
  |some (h,k)=>sSto h k G (evE E x) (evE E y)
  |none=>none
 |.slice t x q p none=>sSli (esz P t) (zc3 P t) (evE E x) (q.map (evE E)) (p.map (evE E))
 |.build t e=>sBld (ztOf pr e.toList) (arr P t).isSome (znd P t) t G (e.toList.map λx=>(x.1,evE E x.2))
 |.makeFunc f a b=>some (.now (.fn f (a.toList.map (evE E)) (b.toList.map (evE E))) [])
 |.nilCheck x=>jkx G (evE E x)
 |.alloc t=>z91 pr.zt t o G g
 |.box t x=>sBox t o G g (evE E x)
 |.makeSlice t x y=>sMk pr.zy (Jy P t) o G g (zpo x y) (evE E x)
 |.buildSlice t len e=>sLit (pr.lit (zw5 o)) (Jy P t) o G g len (e.toList.map λx=>(x.1,evE E x.2))
 |_=>none
section
variable{P:Program}{pr:Prm}{o:Oper}{E:EF}{G:EG}
theorem jiq{bd:Bool}{n:BinOp}{t s:TypeId}{x y:Operand}{q:SR}(c:o.op=.binOp n t x y s)(h:jip P bd n t x y E G=some q):SOk P o E G q:=by
 unfold jip at h;split at h
 ·split at h<;>try (cases h;done)
  rename_i k;exact jh3 c k h
 ·split at h<;>try (cases h;done)
  rename_i k;exact jk9 c k h
 ·split at h<;>try (cases h;done)
  rename_i A B C g;split at h<;>try (cases h;done)
  ·rename_i f a b l;split at h<;>cases h;rename_i i j;refine SOk.now λW F H e=>(wbw c g (.inl ⟨f,yo a,yo b,?_,rfl⟩) j:PQ P W o F H (.u (.bool i)))
   rw[e.ev (by rw[c];simp[Op.operands]),l];simp only[TS.den]
  ·rename_i l;split at h<;>cases h;rename_i i j;refine SOk.now λW F H e=>(wbw c g (.inr ⟨?_,rfl⟩) j:PQ P W o F H (.u (.bool i)))
   rw[e.ev (by rw[c];simp[Op.operands]),l];simp only[TS.den];rfl
 ·split at h<;>try (cases h;done)
  rename_i m;split at h
  ·exact jls c m h
  ·rename_i g;exact jhg g c m h
  ·exact jn0 c m h
  ·split at h<;>try (cases h;done)
   exact jmz (d:=0) c h
  ·rename_i g;split at h<;>try (cases h;done)
   rename_i p;split at h<;>try (cases h;done)
   rename_i r;exact jli c g p r h
  ·cases h
theorem jen(g:Vw P pr.S){f:Nat}{c:Call}{q:SR}(a:o.op=.call c)(h:z96 P pr f o c E G=some q):SOk P o E G q:=by
 unfold z96 at h;split at h
 ·rename_i x t;split at h
  ·rename_i b;exact jcr a (λ_=>b) (λe=>by cases e) h
  ·split at h<;>try (cases h;done)
   rename_i b;exact jcr a (λe=>by cases e) (λ_=>b) h
 ·rename_i s x t j;split at h<;>try (cases h;done)
  rename_i b;have:=wcj b;subst this;exact jlq a h
 ·exact jcd (mx:=false) a h
 ·exact jcd (mx:=true) a h
 ·split at h
  ·rename_i i d;cases h;exact jjx g a d
  ·exact jf6 g a h
 ·cases h
theorem z8a(j:Vw P pr.S)(g:zgc P pr.zt)(i:zgc P pr.zt2):∀e f c o E G q,jdg P pr e f c o E G=some q->SOk P o E G q:=λe f c o E G q h=>by
 unfold jdg at h;split at h
 ·rename_i x a;cases h;exact z6z (.inl a)
 ·rename_i x a;cases h;exact z6z (.inr a)
 ·rename_i a;exact jhh a h
 ·rename_i a;exact jiq a h
 ·rename_i a;exact jmb a h
 ·rename_i a;split at h<;>try (cases h;done)
  rename_i d;split at h<;>try (cases h;done)
  rename_i b;exact jj9 a d b h
 ·rename_i a;exact jon a h
 ·rename_i a;exact jen j a h
 ·rename_i a;exact jom a h
 ·rename_i a;split at h<;>try (cases h;done)
  rename_i d;exact jjf a d h
 ·rename_i a;split at h<;>try (cases h;done)
  rename_i d;split at h<;>try (cases h;done)
  rename_i b;exact jmf a d b h
 ·rename_i a;split at h<;>try (cases h;done)
  rename_i d;split at h<;>try (cases h;done)
  rename_i b;exact jnh a d b h
 ·rename_i a;split at h<;>try (cases h;done)
  rename_i b;exact sLd_ok a b h
 ·rename_i a;split at h<;>try (cases h;done)
  rename_i b;exact jlv a b h
 ·rename_i a;exact joa a h
 ·rename_i a;refine jmi ?_ a h;unfold ztOf;split<;>assumption
 ·rename_i a;cases h;exact jme a
 ·rename_i a;exact jk1 a h
 ·rename_i a;exact jex g a h
 ·rename_i a;exact jmk a h
 ·rename_i a;exact sMk_ok a h
 ·rename_i a;exact jol a h
 ·cases h
end
def w64(z:Int):Int:=IntKind.i64.wrap z
def wr(k:IntKind)(z:Int):Int:=k.wrap z
theorem jcb{α:Type}{f a:Nat}{x:α}{y z:Option α}{G:Prop}(h:cond (Nat.beq f a) y z=some x)(c:f=a->y=some x->G)(d:z=some x->G):G:=by
 cases b:Nat.beq f a
 ·rw[b]at h;exact d h
 ·rw[b]at h;exact c (wcj b) h
theorem wa4{ps qs:List PV}(h:ps=qs):RefL ps qs:=h▸RefL.refl ps
abbrev IdM:=Nm->Nat->Option (Nm×Nat)
mutual
def zj(φ:IdM):PV->PV
 |.ps id c=>match φ id c with
  |some x => .ps x.1 x.2
  |none => .unk
 |.qs id e k c=>match φ id c with
  |some x => .qs x.1 e k x.2
  |none => .unk
 |.pp id e c=>match φ id c with
  |some x => .pp x.1 e x.2
  |none => .unk
 |.fn f a b => .fn f (ze3 φ a) (ze3 φ b)
 |.agg d => .agg (ze3 φ d)
 |.tup d => .tup (ze3 φ d)
 |.u v => .u v
 |.unk => .unk
 |.sl k d => .sl k d
 |.fr t k d => .fr t k d
 |.rp d => .rp d
def ze3(φ:IdM):List PV->List PV
 |[]=>[]
 |x::a=>zj φ x::ze3 φ a
end
theorem vz(φ:IdM):∀a:List PV,ze3 φ a=a.map (zj φ)
 |[]=>by simp only[ze3,wed]
 |x::a=>by simp only[ze3,wc4,vz φ a]
theorem zel{φ:IdM}{p:PV}(h:NoP p):zj φ p=p:=by
 induction h with
 |u v=>simp only[zj]
 |agg cs h c=>simp only[zj,vz];rw[weo c,List.map_id']
 |tup cs h c=>simp only[zj,vz];rw[weo c,List.map_id']
 |sl k g h c=>simp only[zj]
 |fr t k g h c=>simp only[zj]
 |rp g h c=>simp only[zj]
 |fn f a b i j d e=>simp only[zj,vz];rw[weo d,weo e,List.map_id',List.map_id']
theorem z97(φ:IdM)(p:PV):(zj φ p).cells=p.cells.map (zj φ):=by
 cases p with
 |ps id a=>simp only[zj,PV.cells,wc4,wed];cases φ id a<;>rfl
 |qs id b k a=>simp only[zj,PV.cells,wc4,wed];cases φ id a<;>rfl
 |pp id b a=>simp only[zj,PV.cells,wc4,wed];cases φ id a<;>rfl
 |_=>simp only[zj,PV.cells,wc4,wed,vz]
section
variable{Z:ZM}{H H1 H2:PHeap}{V V1 V2:Nm → Value}{w w0:World}{φ:IdM}
theorem zka{S:Nm->Nat->Prop}{p:PV}{v:Value}(h:Rp Z H V w p v)(I:NmAll S p)
  (hz:∀c,c<w.heap.size->¬PZ Z H V c->¬PZ Z H1 V1 c)
  (s:∀id d x,φ id d=some x->d<=(H id).ver->x.2<=(H1 x.1).ver/\((H1 x.1).body.isSome=true->(H1 x.1).ver=x.2->(H id).body.isSome=true/\(H id).ver=d/\V1 x.1=V id)):Rp Z H1 V1 w (zj φ p) v:=by
 induction I generalizing v with
 |noP E=>rw[zel E];exact Rp.noP h E hz
 |unk=>simp only[zj];exact .unk v
 |ps _=>
  simp only[zj];split
  ·rename_i x n;cases h with
   |ps id d _ m h=>
    obtain⟨o,r⟩:=s _ _ x n m;exact .ps _ _ v o λj l=>by obtain⟨a,b,c⟩:=r j l;rw[c];exact h a b
  ·exact .unk v
 |qs _=>
  simp only[zj];split
  ·rename_i x n;cases h with
   |qs id C k d _ m h=>
    obtain⟨o,r⟩:=s _ _ x n m;exact .qs _ _ _ _ v o λj l=>by obtain⟨a,b,c⟩:=r j l;rw[c];exact h a b
  ·exact .unk v
 |pp _=>
  simp only[zj];split
  ·rename_i x n;cases h with
   |pp id C d _ m h=>
    obtain⟨o,r⟩:=s _ _ x n m;exact .pp _ _ _ v o λj l=>by obtain⟨a,b,c⟩:=r j l;rw[c];exact h a b
  ·exact .unk v
 |agg _ z=>
  simp only[zj,vz];cases h with
  |agg _ D t h=>
   refine .agg _ D (by simp[t]) λi p v e g=>?_;rw[wcp]at e;obtain⟨q,f,rfl⟩:=wcs.1 e;exact z q (wck f) (h i q v f g)
 |tup _ z=>
  simp only[zj,vz];cases h with
  |tup _ D t h=>
   refine .tup _ D (by simp[t]) λi p v e g=>?_;rw[wcp]at e;obtain⟨q,f,rfl⟩:=wcs.1 e;exact z q (wck f) (h i q v f g)
 |fn _ _ A B=>
  simp only[zj,vz];cases h with
  |fn _ _ _ K vb u y F G=>
   refine .fn _ _ _ K vb (by simp[u]) (by simp[y]) (λi p v e g=>?_) λi p v e g=>?_
   ·rw[wcp]at e;obtain⟨q,f,rfl⟩:=wcs.1 e;exact A q (wck f) (F i q v f g)
   ·rw[wcp]at e;obtain⟨q,f,rfl⟩:=wcs.1 e;exact B q (wck f) (G i q v f g)
theorem zxy{α:Type}{xs:List α}{p:α}(h:p∈xs):∃i:Nat,xs[i]?=some p:=by
 obtain⟨i,a,e⟩:=List.mem_iff_getElem.1 h;exact⟨i,by rw[wcf a,e]⟩
theorem NmAll.past{S:Nm->Nat->Prop}{p:PV}{v:Value}(h:Rp Z H V w p v)(s:NmAll S p):NmAll (λi f=>S i f/\f<=(H i).ver) p:=by
 induction s generalizing v with
 |noP t=>exact .noP t
 |unk=>exact .unk
 |ps d=>cases h with|ps _ _ _ e _=>exact .ps ⟨d,e⟩
 |qs d=>cases h with|qs _ _ _ _ _ e _=>exact .qs ⟨d,e⟩
 |pp d=>cases h with|pp _ _ _ _ e _=>exact .pp ⟨d,e⟩
 |agg _ l=>
  cases h with
  |agg cs o g h=>
   refine .agg λp c=>?_;obtain⟨i,b⟩:=zxy c;have a:i<o.size:=by rw[<- g];exact(wcg.1 b).1
   exact l p c (h i p _ b (wdj a))
 |tup _ l=>
  cases h with
  |tup cs o g h=>
   refine .tup λp c=>?_;obtain⟨i,b⟩:=zxy c;have a:i<o.size:=by rw[<- g];exact(wcg.1 b).1
   exact l p c (h i p _ b (wdj a))
 |fn _ _ m n=>
  cases h with
  |fn _ _ _ u vb j k q r=>
   refine .fn (λp c=>?_) λp c=>?_
   ·obtain⟨i,b⟩:=zxy c;have a:i<u.size:=by rw[<- j];exact(wcg.1 b).1
    exact m p c (q i p _ b (wdj a))
   ·obtain⟨i,b⟩:=zxy c;have a:i<vb.size:=by rw[<- k];exact(wcg.1 b).1
    exact n p c (r i p _ b (wdj a))
def Back(S:Nm->Nat->Prop)(φ:IdM)(H1 H2:PHeap)(V1 V2:Nm->Value):Prop:=∀id a,S id a->a<=(H2 id).ver/\((H2 id).body.isSome=true->(H2 id).ver=a->∃x,φ id a=some x/\(H1 x.1).body.isSome=true/\(H1 x.1).ver=x.2/\V2 id=V1 x.1)
theorem jgq{S:Nm->Nat->Prop}{p:PV}{v:Value}(D:NmAll S p)(h:Rp Z H1 V1 w (zj φ p) v)(hz:∀c,c<w.heap.size->¬PZ Z H1 V1 c->¬PZ Z H2 V2 c)(r:Back S φ H1 H2 V1 V2):Rp Z H2 V2 w p v:=by
 induction D generalizing v with
 |noP A=>rw[zel A]at h;exact Rp.noP h A hz
 |unk=>exact .unk v
 |ps n=>
  obtain⟨o,q⟩:=r _ _ n;refine .ps _ _ v o λg j=>?_;obtain⟨x,e,a,b,c⟩:=q g j;simp only[zj,e]at h;cases h with|ps _ _ _ _ h=>rw[c];exact h a b
 |qs n=>
  obtain⟨o,q⟩:=r _ _ n;refine .qs _ _ _ _ v o λg j=>?_;obtain⟨x,e,a,b,c⟩:=q g j;simp only[zj,e]at h;cases h with|qs _ _ _ _ _ _ h=>rw[c];exact h a b
 |pp n=>
  obtain⟨o,q⟩:=r _ _ n;refine .pp _ _ _ v o λg j=>?_;obtain⟨x,e,a,b,c⟩:=q g j;simp only[zj,e]at h;cases h with|pp _ _ _ _ _ h=>rw[c];exact h a b
 |fn e F t y=>
  simp only[zj,vz]at h;cases h with
  |fn _ _ _ E vb l m B C=>
   simp only[wcv]at l m;refine .fn _ _ _ E vb l m (λi p u d f=>t p (wck d) (B i _ u (by rw[wcp,d];rfl) f)) λi p u d f=>y p (wck d) (C i _ u (by rw[wcp,d];rfl) f)
 |agg e s=>
  simp only[zj,vz]at h;cases h with
  |agg _ z k h=>
   simp only[wcv]at k;exact .agg _ z k λi p u d f=>s p (wck d) (h i _ u (by rw[wcp,d];rfl) f)
 |tup e s=>
  simp only[zj,vz]at h;cases h with
  |tup _ z k h=>
   simp only[wcv]at k;exact .tup _ z k λi p u d f=>s p (wck d) (h i _ u (by rw[wcp,d];rfl) f)
theorem zu6{cs:List PV}{vs:List Value}(h:RpL Z H V w cs vs)(hm:∀c∈cs,∀v,Rp Z H V w c v->Rp Z H1 V1 w (zj φ c) v):RpL Z H1 V1 w (ze3 φ cs) vs:=⟨by rw[vz,wcv];exact h.1,λi p v a d=>by
 rw[vz,wcp]at a;obtain⟨q,b,rfl⟩:=wcs.1 a;exact hm q (wck b) v (h.2 i q v b d)⟩
theorem jl1{S:Nm->Nat->Prop}{cs:List PV}{vs:List Value}(d:∀c∈cs,NmAll S c)(h:RpL Z H1 V1 w (ze3 φ cs) vs)(hz:∀c,c<w.heap.size->¬PZ Z H1 V1 c->¬PZ Z H2 V2 c)(e:Back S φ H1 H2 V1 V2):RpL Z H2 V2 w cs vs:=⟨by have:=h.1;rw[vz,wcv]at this;exact this,λi p v a b=>by
 refine jgq (d p (wck a)) (h.2 i _ v ?_ b) hz e;rw[vz,wcp,a];rfl⟩
end
abbrev IdT:=Bool->Nat->Nat->Option (Nat×Nat)
mutual
def zfc(μ:IdT):TS->TS
 |.own id g=>match μ false id g with
  |some x => .own x.1 x.2
  |none => .dead
 |.q id k e g=>match μ false id g with
  |some x => .q x.1 k e x.2
  |none => .dead
 |.pt id e g=>match μ false id g with
  |some x => .pt x.1 e x.2
  |none => .dead
 |.elt id k i e g=>match μ false id g with
  |some x => .elt x.1 k i e x.2
  |none => .dead
 |.kid id p v=>match μ true id v with
  |some x => .kid x.1 p x.2
  |none => .dead
 |.kel id p k i e v=>match μ true id v with
  |some x => .kel x.1 p k i e x.2
  |none => .dead
 |.fn f a b => .fn f (V6 μ a) (V6 μ b)
 |.agg h => .agg (V6 μ h)
 |.tup h => .tup (V6 μ h)
 |.v d => .v d
 |.c v => .c v
 |.rd d => .rd d
 |_ => .dead
def V6(μ:IdT):List TS->List TS
 |[]=>[]
 |x::a=>zfc μ x::V6 μ a
end
def BD.sane:BD->Bool
 |.rows _ _ _ _ _ h=>h.isNone
 |.mrows _ _ _ _ _ h=>h.isNone
 |.iter _ _ _ _=>false
 |_=>true
def Zq(μ:IdT)(kv:Nat):BD->BD
 |.rowx a k d => .rowx a k (V6 μ d)
 |.box a d => .box a (V6 μ d)
 |.rows a c t l _ h => .rows a c t l kv h
 |.mrows f c t e _ h => .mrows f c t e kv h
 |b=>b
def ze2(μ:IdT)(kv:Nat)(o:Option BD):Option BD:=match o with
 |some b=>match b.sane with
  |true=>some (Zq μ kv b)
  |false=>none
 |none=>none
theorem zcy{μ:IdT}{kv:Nat}{o:Option BD}{b:BD}(h:ze2 μ kv o=some b):∃a,o=some a/\a.sane=true/\b=Zq μ kv a:=by
 unfold ze2 at h;split at h<;>try (cases h;done)
 split at h<;>cases h;exact⟨_,rfl,by assumption,rfl⟩
theorem zyd(μ:IdT)(kv:Nat)(b:BD)(j:Nat):(Zq μ kv b).ch j=b.ch j:=by cases b<;>rfl
theorem zml(μ:IdT)(kv:Nat)(b:BD):(Zq μ kv b).flat=true/\(Zq μ kv b).kv=0\/(Zq μ kv b).flat=false/\(Zq μ kv b).kv=kv:=by cases b<;>simp[Zq,BD.flat,BD.kv]
theorem zpp{μ:IdT}{ver:Nat}(o:Option BD):(⟨ver,ze2 μ 0 o⟩:GB).cv=ver:=by
 unfold GB.cv;simp only;split
 ·rename_i b c;obtain⟨a,_,_,rfl⟩:=zcy c;rcases zml μ 0 a with⟨_,h⟩|⟨_,h⟩<;>rw[h]<;>rfl
 ·rfl
def zfy(μ:IdT):IdM:=λy a=>match y with
 |.o i=>(μ false i a).map λx=>(.o x.1,x.2)
 |.c i j=>(μ true i a).map λx=>(.c x.1 j,x.2)
 |.r _=>none
theorem ze0(μ:IdT)(i ver:Nat):zfy μ (.o i) ver=(μ false i ver).map λx=>(.o x.1,x.2):=rfl
mutual
theorem zw6(μ:IdT):∀s:TS,(zfc μ s).den=zj (zfy μ) s.den
 |.v d=>by simp only[zfc,TS.den];exact(zel (zb7 _ _)).symm
 |.c v=>by simp only[zfc,TS.den];exact(zel (zhm v)).symm
 |.own id e=>by simp only[zfc,TS.den,zj,ze0];cases μ false id e<;>simp[TS.den]
 |.q id k g e=>by simp only[zfc,TS.den,zj,ze0];cases μ false id e<;>simp[TS.den]
 |.pt id g e=>by simp only[zfc,TS.den,zj,ze0];cases μ false id e<;>simp[TS.den]
 |.elt id k i g e=>by simp only[zfc,TS.den,zj,ze0];cases μ false id e<;>simp[TS.den]
 |.rd d=>by simp only[zfc,TS.den];exact(zel (.rp _ (yg _ _))).symm
 |.kid id p v=>by simp only[zfc,TS.den,zj,zfy];cases μ true id v<;>simp[TS.den]
 |.kel id p k i g v=>by simp only[zfc,TS.den,zj,zfy];cases μ true id v<;>simp[TS.den]
 |.dead=>by simp only[zfc,TS.den,zj]
 |.fn f a b=>by simp only[zfc,TS.den,zj,zgg μ a,zgg μ b,vz]
 |.agg h=>by simp only[zfc,TS.den,zj,zmf μ h,vz]
 |.tup h=>by simp only[zfc,TS.den,zj,zgg μ h,vz]
theorem zgg(μ:IdT):∀a:List TS,yo (V6 μ a)=(yo a).map (zj (zfy μ))
 |[]=>by simp only[V6,yo,wed]
 |x::a=>by simp only[V6,yo,wc4,zw6 μ x,zgg μ a]
theorem zmf(μ:IdT):∀a:List TS,qd (V6 μ a)=(qd a).map (zj (zfy μ))
 |[]=>by simp only[V6,qd,wed]
 |x::a=>by simp only[V6,qd,wdb,zw6 μ x,zmf μ a,z97]
end
theorem zo9(μ:IdT):∀a:List TS,(V6 μ a).length=a.length
 |[]=>by simp only[V6]
 |x::a=>by simp only[V6,wdy,zo9 μ a]
def zn9(φm:IdM):PBody->PBody
 |.row t k n cs => .row t k n (ze3 φm cs)
 |.box t cs => .box t (ze3 φm cs)
 |.raw p cs φ => .raw p (ze3 φm cs) φ
 |.que t k n cs => .que t k n (ze3 φm cs)
theorem zl5(φ:IdM)(bd:PBody):(zn9 φ bd).cs=ze3 φ bd.cs:=by cases bd<;>rfl
theorem zwm{φ:IdM}{bd:PBody}{w:World}{m:Nat}{v:Value}{vs:List Value}:(zn9 φ bd).Is w m v vs↔bd.Is w m v vs:=by cases bd<;>exact Iff.rfl
def zjk(φ:IdM)(x:zlj):zlj:=⟨x.ver,x.body.map (zn9 φ)⟩
def zsc:List Nat->Nat->Nat->Option Nat
 |[],_,_=>none
 |a::r,i,j=>match Nat.beq a i with
  |true=>some j
  |false=>zsc r i (j+1)
theorem zkb:∀{L:List Nat}{i j X:Nat},zsc L i j=some X->∃m,X=j+m/\L[m]?=some i
 |[],i,j,X,h=>by cases h
 |a::r,i,j,X,h=>by
  simp only[zsc]at h;split at h
  ·rename_i c;cases h;exact⟨0,rfl,by rw[we2,qc c]⟩
  ·obtain⟨m,d,b⟩:=zkb h;exact⟨m+1,by omega,by rw[we3];exact b⟩
theorem zj5:∀{L:List Nat}{i j:Nat},zsc L i j=none->i∉L
 |[],i,j,h=>by simp
 |a::r,i,j,h=>by
  simp only[zsc]at h;split at h
  ·cases h
  ·rename_i b;simp only[wc1,not_or];refine⟨λe=>?_,zj5 h⟩;subst e;rw[wev]at b;cases b
theorem zmx{L:List Nat}(e:L.Nodup){X i:Nat}(h:L[X]?=some i):zsc L i 0=some X:=by
 cases c:zsc L i 0 with
 |none=>exact absurd (wck h) (zj5 c)
 |some Y=>
  obtain⟨m,rfl,d⟩:=zkb c;have a:=(wcg.1 h)
  have b:=(wcg.1 d)
  have:=(List.getElem_inj (h₀:=a.1) (h₁:=b.1) e).1 (by rw[a.2,b.2]);simp[this]
def GB.at(x:GB)(c:Bool):Nat:=match c with
 |true=>x.cv
 |false=>x.ver
def mu1(L:List Nat)(a:Nat)(G:EG):IdT:=λc i b=>match zsc L i 0 with
 |some X=>match Nat.blt X a && Nat.beq b ((G i).at c)with
  |true=>some (X,1)
  |false=>none
 |none=>none
theorem z9c{L:List Nat}{a:Nat}{G:EG}{c:Bool}{i ver:Nat}{x:Nat×Nat}(h:mu1 L a G c i ver=some x):L[x.1]?=some i/\x.1<a/\ver=(G i).at c/\x.2=1:=by
 unfold mu1 at h;split at h<;>try (cases h;done)
 rename_i X f;split at h<;>cases h;rename_i b;simp only[wcl,wfk]at b;obtain⟨m,d,e⟩:=zkb f;exact⟨by rw[d,wdo];exact e,b.1,qc b.2,rfl⟩
def zds(L:List Nat)(y:Nm):Bool:=match y.rt with
 |some i=>(zsc L i 0).isSome
 |none=>false
def jig(μ:IdT):IdT:=λc i a=>match c with
 |true=>none
 |false=>μ false i a
theorem zxm{μ:IdT}{y:Nm}{ver:Nat}{x:Nm×Nat}(h:zfy (jig μ) y ver=some x):zfy μ y ver=some x/\∃i,y=.o i:=by
 cases y with
 |o i=>exact⟨h,i,rfl⟩
 |c i j=>cases h
 |r _=>cases h
def phG(L:List Nat)(b:Nat)(G:EG):IdM:=λy a=>match zds L y with
 |true=>zfy (jig (mu1 L b G)) y a
 |false=>some (.r y,a)
def inG(L:List Nat)(G:EG):EG:=λX=>match L[X]? with
 |some i=>⟨1,ze2 (mu1 L L.length G) 0 (G i).b⟩
 |none=>⟨0,none⟩
def inR(L:List Nat)(b:Nat)(G:EG)(H:PHeap):PHeap:=λy=>match zds L y with
 |true=>⟨0,none⟩
 |false=>zjk (phG L b G) (H y)
theorem zlo{L:List Nat}{y:Nm}{i:Nat}(b:y.rt=some i)(h:i∈L):zds L y=true:=by
 unfold zds;rw[b];simp only;cases a:zsc L i 0 with
 |none=>exact absurd h (zj5 a)
 |some X=>rfl
theorem z1p{L:List Nat}{a:Nat}{G:EG}{y:Nm}{ver:Nat}{x:Nm×Nat}(h:zfy (mu1 L a G) y ver=some x):∃X i:Nat,(y=.o i/\x=(.o X,1)/\ver=(G i).ver\/∃j,y=.c i j/\x=(.c X j,1)/\ver=(G i).cv)/\L[X]?=some i/\X<a:=by
 unfold zfy at h;split at h<;>try (cases h;done)
 ·obtain⟨z,hz,rfl⟩:=wcs.1 h;obtain⟨b,d,e,f⟩:=z9c hz;exact⟨z.1,_,.inl ⟨rfl,by rw[f],e⟩,b,d⟩
 ·obtain⟨z,hz,rfl⟩:=wcs.1 h;obtain⟨b,d,e,f⟩:=z9c hz;exact⟨z.1,_,.inr ⟨_,rfl,by rw[f],e⟩,b,d⟩
def _root_.Go.Proofs.YtigdmmgklieofaaGreat.L.Nm.re:Nm->Nat->Nm
 |.o _,X => .o X
 |.c _ j,X => .c X j
 |.r y,_ => .r y
theorem z81{Z:ZM}{g o:PHeap}{q V2:Nm->Value}{w:World}{μ:IdT}(hm:∀p v,Fl p->Rp Z g q w p v->Rp Z o V2 w (zj (zfy μ) p) v){r:BD}{i X m kv y z:Nat}(B:r.sane=true)(H:∀j v,Rp Z g q w (.ps (.c i j) y) v->Rp Z o V2 w (.ps (.c X j) z) v){v:Value}{vs:List Value}(a:(r.den i y).Is w m v vs)(d:RpL Z g q w (r.den i y).cs vs):((Zq μ kv r).den X z).Is w m v vs/\RpL Z o V2 w ((Zq μ kv r).den X z).cs vs:=by
 have flat:∀{t:Ty}{l:List t.D}{vs},RpL Z g q w (l.flatMap (jq t)) vs->RpL Z o V2 w (l.flatMap (jq t)) vs:=λ{t l vs}h=>waj h λc A v s=>by
  obtain⟨x,_,I⟩:=wds.1 A;have C:=yg t x c I;have:=hm c v (.noP C) s;rwa [zel C]at this
 have kids:∀{n:Nat}{vs},RpL Z g q w ((List.range n).map (Hole.cell i y none)) vs->RpL Z o V2 w ((List.range n).map (Hole.cell X z none)) vs:=λ{n vs}s=>by
  refine⟨by have:=s.1;simpa using this,λj p v a d=>?_⟩;rw[wcp]at a;obtain⟨L,G,rfl⟩:=wcs.1 a;exact H L v (s.2 j _ v (by rw[wcp,G];rfl) d)
 have b:∀{u:List TS}{vs},RpL Z g q w (qd u) vs->RpL Z o V2 w (qd (V6 μ u)) vs:=λ{u vs}h=>by
  rw[zmf,<- vz];exact zu6 h λc A v s=>hm c v (zoi u c A) s
 cases r with
 |row f t l=>exact⟨a,flat d⟩
 |rowx f k u=>exact⟨by simp only[Zq,BD.den,zo9];exact a,b d⟩
 |box f u=>exact⟨a,b d⟩
 |obj k x=>
  obtain⟨p,φ,e⟩:=k.den_raw x;simp only[Zq,BD.den,e]at a d⊢;exact⟨a,d.1,λi p v a=>by simp[PBody.cs]at a⟩
 |que f t l=>exact⟨a,flat d⟩
 |rows f K t l _ h=>cases h with
  |none=>exact⟨a,kids d⟩
  |some x=>cases B
 |mrows O K t N _ h=>cases h with
  |none=>exact⟨a,kids d⟩
  |some x=>cases B
 |iter M E n F=>cases B
section
variable{P:Program}{W:Env}{n:Nat}{L:List Nat}{b:Nat}{G:EG}{H:PHeap}{V:Nm → Value}{w:World}{F:PFrame}
def inS(L:List Nat):Nm->Nm
 |.o X => .o ((L[X]?).getD 0)
 |.c X j => .c ((L[X]?).getD 0) j
 |.r y=>y
theorem z62{X:Nat}{c:BD}(h:(inG L G X).b=some c):∃i a,L[X]?=some i/\(G i).b=some a/\a.sane=true/\c=Zq (mu1 L L.length G) 0 a:=by
 unfold inG at h;split at h<;>try (cases h;done)
 obtain⟨a,d,e,f⟩:=zcy h;exact⟨_,a,by assumption,d,e,f⟩
theorem jbv{X i:Nat}(h:L[X]?=some i):(inG L G X).cv=1:=by
 unfold inG;rw[h];exact zpp _
theorem zuk(m:∀i∈L,AgN H G i){z:Nm}{bd:PBody}(h:(qn (inG L G) (inR L b G H) z).body=some bd):
  (∃X i d,L[X]?=some i/\(G i).b=some d/\d.sane=true/\((z=.o X/\inS L z=.o i/\bd=(Zq (mu1 L L.length G) 0 d).den X 1)\/∃j,z=.c X j/\inS L z=.c i j/\d.ch j=some bd))\/∃y a,z=.r y/\zds L y=false/\(H y).body=some a/\bd=zn9 (phG L b G) a:=by
 cases z with
 |o X=>
  obtain⟨p,f,rfl⟩:=wcs.1 (show(inG L G X).b.map (BD.den X (inG L G X).cv)=some bd from h);obtain⟨i,d,e,g,k,rfl⟩:=z62 f;exact .inl ⟨X,i,d,e,g,k,.inl ⟨rfl,by simp only[inS,e,wda],by rw[jbv e]⟩⟩
 |c X j=>
  obtain⟨p,f,l⟩:=wdm.1 (show(inG L G X).b.bind (λb=>b.ch j)=some bd from h);obtain⟨i,d,e,g,k,rfl⟩:=z62 f;exact .inl ⟨X,i,d,e,g,k,.inr ⟨j,rfl,by simp only[inS,e,wda],by rw[<- zyd];exact l⟩⟩
 |r y=>
  have h:(inR L b G H y).body=some bd:=h;unfold inR at h;split at h
  ·cases h
  ·rename_i n;simp only[zjk,wcs]at h;obtain⟨a,f,rfl⟩:=h;exact .inr ⟨y,a,rfl,n,f,rfl⟩
theorem znc(a:∀i∈L,AgN H G i){z:Nm}(h:(qn (inG L G) (inR L b G H) z).body.isSome=true):(H (inS L z)).body.isSome=true:=by
 obtain⟨m,g⟩:=wdi.1 h;rcases zuk a g with⟨X,i,l,c,d,n,⟨rfl,e,_⟩|⟨j,rfl,e,k⟩⟩|⟨y,f,rfl,o,c,rfl⟩
 ·rw[e,(a i (wck c)).1];simp[v6,d]
 ·rw[e,(a i (wck c)).2];simp[zac,d,k]
 ·show(H y).body.isSome=true;rw[c];rfl
theorem z7t(a:∀i∈L,AgN H G i):∀c,c<w.heap.size->¬PZ W.Z H V c->¬PZ W.Z (qn (inG L G) (inR L b G H)) (λz=>V (inS L z)) c:=λc _ h=>
 z21 (λz g hz _=>⟨_,znc a hz,rfl⟩) h
theorem jje{l:Nat}(a:∀i∈L,AgN H G i):∀id d x,zfy (mu1 L l G) id d=some x->d<=(H id).ver->x.2<=(qn (inG L G) (inR L b G H) x.1).ver/\((qn (inG L G) (inR L b G H) x.1).body.isSome=true->(qn (inG L G) (inR L b G H) x.1).ver=x.2->(H id).body.isSome=true/\(H id).ver=d/\V (inS L x.1)=V id):=λid d x h m=>by
 obtain⟨X,i,⟨rfl,rfl,rfl⟩|⟨j,rfl,rfl,rfl⟩,g,_⟩:=z1p h
 ·have f:(qn (inG L G) (inR L b G H) (.o X)).ver=1:=by show(inG L G X).ver=1;unfold inG;rw[g]
  have e:inS L (.o X)=.o i:=by simp only[inS,g,wda]
  refine⟨by rw[f];exact wcq _,λk _=>?_⟩;have:=znc (b:=b) a k;simp only[e]at this⊢;exact⟨this,by rw[(a i (wck g)).1];rfl,trivial⟩
 ·have f:(qn (inG L G) (inR L b G H) (.c X j)).ver=1:=jbv g;have e:inS L (.c X j)=.c i j:=by simp only[inS,g,wda]
  refine⟨by rw[f];exact wcq _,λk _=>?_⟩;have:=znc (b:=b) a k;simp only[e]at this⊢;exact⟨this,by rw[(a i (wck g)).2];rfl,trivial⟩
theorem jpa(c:∀i∈L,AgN H G i):∀id a x,phG L b G id a=some x->a<=(H id).ver->x.2<=(qn (inG L G) (inR L b G H) x.1).ver/\((qn (inG L G) (inR L b G H) x.1).body.isSome=true->(qn (inG L G) (inR L b G H) x.1).ver=x.2->(H id).body.isSome=true/\(H id).ver=a/\V (inS L x.1)=V id):=λid a x h d=>by
 unfold phG at h;split at h
 ·exact jje c id a x (zxm h).1 d
 ·rename_i j;cases h;have e:qn (inG L G) (inR L b G H) (.r id)=zjk (phG L b G) (H id):=by show inR L b G H id=_;unfold inR;rw[j]
  simp only[e];refine⟨d,λf g=>⟨?_,g,rfl⟩⟩;simpa [zjk]using f
theorem z04{S:Nm->Nat->Prop}{p:PV}(o:NmAll S p):IdOk b (zj (phG L b G) p):=by
 have a:∀i g x,phG L b G i g=some x->NmOk b x.1:=λi g x h=>by
  unfold phG at h;split at h
  ·obtain⟨h,t,e⟩:=zxm h;obtain⟨X,j,⟨rfl,rfl,_⟩|⟨_,rfl,rfl,_⟩,r,k⟩:=z1p h
   ·exact k
   ·cases e
  ·cases h;trivial
 induction o with
 |noP h=>rw[zel h];exact .noP h
 |unk=>exact .unk
 |ps=>
  simp only[zj];split
  ·rename_i x f;exact .ps (a _ _ _ f)
  ·exact .unk
 |qs=>
  simp only[zj];split
  ·rename_i x f;exact .qs (a _ _ _ f)
  ·exact .unk
 |pp=>
  simp only[zj];split
  ·rename_i x f;exact .pp (a _ _ _ f)
  ·exact .unk
 |fn f s m n=>
  simp only[zj,vz];exact .fn (λp c=>by obtain⟨q,d,rfl⟩:=wcz.1 c;exact m q d) λp c=>by obtain⟨q,d,rfl⟩:=wcz.1 c;exact n q d
 |agg h l=>
  simp only[zj,vz];exact .agg λp c=>by obtain⟨q,d,rfl⟩:=wcz.1 c;exact l q d
 |tup h l=>
  simp only[zj,vz];exact .tup λp c=>by obtain⟨q,d,rfl⟩:=wcz.1 c;exact l q d
theorem inR_ok(d:∀k,FlB (H k)):RestOk b (inR L b G H):=λy i h c e=>by
 unfold inR at h;split at h
 ·cases h
 ·simp only[zjk,wcs]at h;obtain⟨a,f,rfl⟩:=h;rw[zl5,vz]at e;obtain⟨q,g,rfl⟩:=wcz.1 e;exact z04 (d y a f q g)
theorem jlu(hn:L.Nodup)(a:∀i∈L,AgN H G i){h:Env}(hr:HRel P h H V w)(S:∀i,Fl (h.G i))(T:∀k,FlB (H k)):
  HRel P { h with G:=λi=>zj (phG L b G) (h.G i) } (qn (inG L G) (inR L b G H)) (λz=>V (inS L z)) w:=by
 have B:∀{X i j:Nat}{A:BD}{v},L[X]?=some i->(G i).b=some A->A.sane=true->Rp h.Z H V w (.ps (.c i j) (G i).cv) v->Rp h.Z (qn (inG L G) (inR L b G H)) (λz=>V (inS L z)) w (.ps (.c X j) 1) v:=λ{X i j A v}O M hs q=>by
  cases q with
  |ps _ _ _ d f=>
   refine .ps _ _ _ (Nat.le_of_eq (jbv O).symm) λl _=>?_;have K:=znc (b:=b) a l;have e:inS L (.c X j)=.c i j:=by simp only[inS,O,wda]
   simp only[e]at K⊢;exact f K (by rw[(a i (wck O)).2];rfl)
 refine HRel.ren hr (inS L) rfl rfl (λi=>zka (hr.ghost i) (S i) (z7t (W:=h) a) (jpa a)) (λz U M=> .inr ?_) λz z' g d f _ _ e=>?_
 ·rcases zuk a M with⟨X,i,A,d,f,l,⟨rfl,e,rfl⟩|⟨j,rfl,e,J⟩⟩|⟨y,t,rfl,C,d,rfl⟩
  ·refine⟨A.den i (G i).cv,by rw[e,(a i (wck d)).1];simp[v6,f],rfl,λvs E F=>?_⟩;exact z81 (λp v C q=>zka q C (z7t (W:=h) a) (jje a)) l (λj v q=>B d f l q) E F
  ·refine⟨U,by rw[e,(a i (wck d)).2];simp[zac,f,J],rfl,λvs E F=>⟨E,waj F λc R v q=>Rp.noP q (jb0 J c R) (z7t (W:=h) a)⟩⟩
  ·exact⟨t,d,rfl,λvs E F=>⟨zwm.2 E,by rw[zl5];exact zu6 F λc R v q=>zka q (T y t d c R) (z7t (W:=h) a) (jpa a)⟩⟩
 ·obtain⟨U,M⟩:=wdi.1 d;obtain⟨a5,Q⟩:=wdi.1 f;have m:∀{X i:Nat}{y k:Nm},L[X]?=some i->k.rt=some i->zds L y=false->y=k->False:=λ{X i y k}d f l K=>by
   subst K;rw[zlo f (wck d)]at l;cases l
  have s:∀{X I i:Nat},L[X]?=some i->L[I]?=some i->X=I:=λ{X I i}d f=>by
   have l:=zmx hn d;rw[zmx hn f]at l;cases l;rfl
  rcases zuk a M with⟨X,i,A,N,_,_,⟨rfl,u,_⟩|⟨j,rfl,u,_⟩⟩|⟨y,t,rfl,C,_,_⟩ <;>
   rcases zuk a Q with⟨I,i',a4,n,_,_,⟨rfl,x,_⟩|⟨j',rfl,x,_⟩⟩|⟨y',Y,rfl,D,_,_⟩
  ·rw[u,x]at e;cases e;rw[s N n]
  ·rw[u,x]at e;cases e
  ·rw[u]at e;exact(m N (k :=.o i) rfl D e.symm).elim
  ·rw[u,x]at e;cases e
  ·rw[u,x]at e;cases e;rw[s N n]
  ·rw[u]at e;exact(m N (k :=.c i j) rfl D e.symm).elim
  ·rw[x]at e;exact(m n (k :=.o i') rfl C e).elim
  ·rw[x]at e;exact(m n (k :=.c i' j') rfl C e).elim
  ·exact congrArg Nm.r e
end
end
end Go.Proofs.YtigdmmgklieofaaGreat.T
