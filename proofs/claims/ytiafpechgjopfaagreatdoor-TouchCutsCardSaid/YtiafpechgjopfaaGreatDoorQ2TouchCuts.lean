
import Derived.Test.YtiafpechgjopfaaGreatDoorQ1TouchCuts

namespace Go.Proofs.YtiafpechgjopfaaGreatDoor.T
noncomputable section
set_option maxRecDepth 100000
set_option maxHeartbeats 8000000
set_option linter.unusedVariables false
set_option linter.unusedSimpArgs false
set_option linter.defProp false
open List (replicate range)
open Go Go.RowKit L
def ja{α β:Type}(o:Option α)(f:α->Option β):Option β:=match o with
 |none=>none
 |some a=>f a
def qw{α β:Type}{o:Wal α}{f:α->Wal β}{r:β}(h:ja o f=some r):∃a,o=some a/\f a=some r:=by cases o with|none=>{cases h}|some a=>exact⟨a,rfl,h⟩
def ifB{β:Type}(c:Bool)(x y:Option β):Option β:=match c with
 |true=>x
 |false=>y
def jm{σ β:Type}(B:σ->(σ->Option β)->Option β):Nat->σ->Option β
 |0,_=>none
 |m+1,s=>B s (jm B m)
def J{σ β:Type}(rest:σ->Option β)(A:(σ->Option β)->Option β):Option β:=A rest
@[reducible] def DL:List Ty->Type
 |[]=>Unit
 |[t]=>t.D
 |t::u::a=>t.D×DL (u::a)
def jkl:(ts:List Ty)->List Dyn->Option (DL ts)
 |[],[]=>some ()
 |[t],[d]=>d.as t
 |t::u::ts,d::a=>match d.as t with
  |none=>none
  |some x=>match jkl (u::ts) a with
   |none=>none
   |some y=>some (x,y)
 |_,_=>none
def Jc:(ts:List Ty)->DL ts->List Dyn
 |[],_=>[]
 |[t],x=>[⟨t,x⟩]
 |t::u::ts,x=>⟨t,x.1⟩::Jc (u::ts) x.2
def jhf:∀{ts:Wam Ty}{l:Wam Dyn}{d:DL ts},jkl ts l=some d->Jc ts d=l
 |[],l,d,h=>by cases l with|nil=>{rfl}|cons _ _=>simp[jkl]at h
 |[t],l,d,h=>by
  match l,h with
  |[e],h=>simp[jkl]at h;simp[Jc,wag h]
  |[],h=>trivial
  |_::_::_,h=>trivial
 |t::u::ts,l,d,h=>by cases l with|nil=>{trivial}|cons e l=>simp[jkl]at h;(split at h<;>try (cases h;done));rename_i x a;(split at h<;>try (cases h;done));rename_i y b;cases h;simp[Jc,wag a,jhf b]
mutual
def tysT:HS->List Ty
 |.v t=>[t]
 |.rd t=>[t]
 |.fn _ a b=>zyw a++zyw b
 |.agg c=>zyw c
 |.tup c=>zyw c
 |_=>[]
def zyw:List HS->List Ty
 |[]=>[]
 |h::a=>tysT h++zyw a
end
def tysB:HB->List Ty
 |.row _ t=>[.sl t]
 |.rowx _ _ a=>zyw a
 |.box _ a=>zyw a
 |.obj k=>[k.ty]
 |.que _ t=>[.sl t]
 |.rows _ _ t=>[.sl (.sl t)]
 |.mrows b _ t=>[mty b t]
 |.iter _=>[.sl .bool]
def jwz:List (Nat×HS)->List Ty
 |[]=>[]
 |h::a=>tysT h.2++jwz a
def jxa:List (Nat×HB)->List Ty
 |[]=>[]
 |h::a=>tysB h.2++jxa a
def LH.tys(h:LH):List Ty:=jwz h.slots++jxa h.heap
def z8i(b:Nat)(h:LH)(E:EF)(G:EG):Option (DL h.tys):=match jsm b h E G with
 |some r=>jkl h.tys r.1
 |none=>none
def meet{β:Type}(b:Nat)(h:LH)(j:DL h.tys->Option β)(E:EF)(G:EG):Option β:=match z8i b h E G with
 |some t=>j t
 |none=>none
structure SR where
 α:Type
 imm:Bool
 o:Option α
 s:α->TS
 w:α->List (Nat×GB)
 rd:List Nat
 tc:List Nat
 fz:List Nat
def sets(G:EG):List (Nat×GB)->EG
 |[]=>G
 |x::r=>sets (G.set x.1 x.2) r
def z52(R:Wau):∀(ws:Wam (Nat×GB))(G:EG),qp (sets G ws) R=qv (qp G R) ws
 |[],G=>rfl
 |x::r,G=>by simp[sets,qv];rw[z52 R r,jah]
def AgN(H:PHeap)(G:EG)(id:Nat):Prop:=H (.o id)=vz id (G id)/\∀j,H (.c id j)=zcc (G id) j
def wbi{H:Wau}{G:EG}{id:Nat}(h:∀k,k.rt=some id->H k=Qx (G id) k):AgN H G id:=⟨h (.o id) rfl,λj=>h (.c id j) rfl⟩
def AgN.at{H:Wau}{G:EG}{id:Nat}(h:AgN H G id){k:Nm}(a:k.rt=some id):H k=Qx (G id) k:=by cases k<;>cases a;{exact h.1};.exact h.2 _
def znu(H:PHeap):List (Nat×GB)->PHeap
 |[]=>H
 |x::r=>znu (H.set (.o x.1) (vz x.1 x.2)) r
def jhn(G:EG):List (Nat×GB)->Bool
 |[]=>true
 |x::r=>match (G x.1).flat && x.2.flat && Nat.ble (G x.1).ver x.2.ver with
  |true=>jhn G r
  |false=>false
def z09{G:EG}:∀{ws:Wam (Nat×GB)},jhn G ws=true->∀x∈ws,(G x.1).flat=true/\x.2.flat=true/\(G x.1).ver<=x.2.ver
 |[],_,x,a=>X
 |y::r,h,x,a=>by simp[jhn]at h;(split at h<;>try (cases h;done));rename_i b;rcases wda.1 a with rfl|a;{simp_all};.exact z09 h x a
def wbf(l:List Nat):Nm->Bool
 |.c i _=>l.any (Nat.beq i)
 |_=>false
def jcz:∀{ws:Wam (Nat×GB)}{H a:Wau}{k:Nm},H k=a k->wbf (ws.map Prod.fst) k=false->znu H ws k=qv a ws k
 |[],H,a,k,h,_=>h
 |x::r,H,a,k,h,b=>by show znu (H.set (.o x.1) (vz x.1 x.2)) r k=qv (zlp a x.1 x.2) r k;refine jcz ?_ ?_;{cases k with|o i=>{unfold PHeap.set zlp;by_cases e:i=x.1;{subst e;simp[Nm.rt,Qx]};.simp[Nm.rt,e,h]}|c i j=>{unfold PHeap.set zlp;by_cases e:i=x.1;{subst e;simp[wbf]at b};.simp[Nm.rt,e,h]}|r x=>assumption};.cases k with|c i j=>{simp[wbf,wc7,List.any_cons,Bool.or_eq_false_iff]at b⊢;grind}|_=>rfl
def jh2:∀{ws:Wam (Nat×GB)}{H:Wau}{i j:Nat},znu H ws (.c i j)=H (.c i j)
 |[],H,i,j=>rfl
 |x::r,H,i,j=>by simp[znu];rw[jh2];rfl
def jim:∀{ws:Wam (Nat×GB)}{H:Wau}{i j:Nat},(∃x∈ws,x.1=i/\qv H ws (.c i j)=zcc x.2 j)\/qv H ws (.c i j)=H (.c i j)/\∀x∈ws,x.1≠i
 |[],H,i,j => .inr ⟨rfl,λx h=>X⟩
 |x::r,H,i,j=>by
  simp only[qv];rcases jim (ws:=r) (H:=zlp H x.1 x.2) (i:=i) (j:=j)with⟨y,a,b,d⟩|⟨a,b⟩
  {grind};.by_cases e:x.1=i;{refine .inl ⟨x,V,e,?_⟩;rw[a];unfold zlp;simp[Nm.rt,e,Qx]};.refine .inr ⟨?_,λy f=>?_⟩;{rw[a];unfold zlp;simp[Nm.rt,Ne.symm e]};grind
def jg6{ws:Wam (Nat×GB)}{H:Wau}(h:∀x∈ws,x.2.flat=true/\∀j,(H (.c x.1 j)).ver<=x.2.ver):jgm (znu H ws) (qv H ws) (wbf (ws.map Prod.fst)):=λk=>⟨λa=>(jcz rfl a).symm,λa=>by
 cases k with
 |o i=>cases a
 |r x=>cases a
 |c i j=>
  rw[jh2];rcases jim (i:=i)with⟨x,e,b,d⟩|⟨e,b⟩
  {subst b;rw[d,zsq (h x e).1];grind};.simp only[wbf,List.any_map,List.any_eq_true]at a;obtain⟨x,d,f⟩:=a;exact absurd (wcn f).symm (b x d)⟩
def PE.less{P:Waq}{W:Env}{n:Nat}{o:Oper}{F:Wav}{H e d:Wau}{g:PV}{D:Nm->Bool}(h:PE P W n o F H λp c=>p=g/\c=e)(f:jgm e d D):PE P W n o F H λp c=>p=g/\c=d:=λV a w l=>
 Oper.wp_mono (λm q⟨p,c,i,⟨j,k⟩,b⟩=>by
  subst j;subst k;exact⟨p,d,i,⟨rfl,rfl⟩,b.heap.less f,b.size,b.defers,λt=>(b.slot t).less f⟩) (h V a w l)
def znc(l:List Nat)(x:Nat):Bool:=l.any (Nat.beq x)
def zil(D:List Nat)(G:EG):EG:=λid=>match znc D id with
 |true=>⟨(G id).cv+1,none⟩
 |false=>G id
def zh4(D:List Nat)(G:EG):List (Nat×GB):=D.map λid=>(id,⟨(G id).cv+1,none⟩)
def zdo(D:Wam Nat)(G:EG):(zh4 D G).map Prod.fst=D:=by unfold zh4;rw[wd3];exact List.map_id' D
def SOk(P:Program)(o:Oper)(E:EF)(G:EG)(q:SR):Prop:=
 (∀x,(q.w x).map Prod.fst=q.tc)/\∀x,q.o=some x->∀(W:Env)(n:Nat)(F:PFrame)(H:PHeap),FlW W F H->Zc n o->(∀t,Operand.tmp t∈o.op.operands->F t=(E t).den)->(∀id,id∈q.rd\/id∈q.tc\/id∈q.fz->AgN H G id) ->
  PE P W n o F H (λp a=>p=(q.s x).den/\a=znu (qv H (zh4 q.fz G)) (q.w x))
structure RT where
 rd:List Nat
 tc:List Nat
structure SK where
 run:{β:Type}->(TS->List (Nat×GB)->RT->Option β)->Option β
def jq9(P:Program)(o:Oper)(E:EF)(G:EG)(s:TS)(ws:List (Nat×GB))(rt:RT):Prop:=
 (∀id∈ws.map Prod.fst,id∈rt.tc)/\∀(W:Env)(n:Nat)(F:PFrame)(H:PHeap),FlW W F H->Zc n o->(∀t,Operand.tmp t∈o.op.operands->F t=(E t).den)->(∀id,id∈rt.rd\/id∈ws.map Prod.fst->AgN H G id) ->
  PE P W n o F H (λp a=>p=s.den/\a=qv H ws)
def zou(P:Program)(o:Oper)(E:EF)(G:EG)(q:SK):Prop:=
 ∀{β:Type}(k:TS->List (Nat×GB)->RT->Option β)(r:β),q.run k=some r->∃s a rt,k s a rt=some r/\(∀{γ:Type}(b:TS->List (Nat×GB)->RT->Option γ),q.run b=b s a rt)/\jq9 P o E G s a rt
abbrev SyT:=Nat->Nat->Nat->Oper->EF->EG->Option SK
def zwp(P:Program)(sy:SyT):Prop:=∀ctx b a o E G q,sy ctx b a o E G=some q->zou P o E G q
def jbu{β:Type}(q:SR)(k:q.α->Option β):Option β:=match q.imm with
 |true=>match q.o with
  |some x=>k x
  |none=>none
 |false=>ja q.o k
def z5i{β:Type}{q:SR}{k:q.α->Wal β}{r:β}(h:jbu q k=some r):∃x,q.o=some x/\k x=some r:=by unfold jbu at h;split at h;{grind};.exact qw h
def jkr(n:Nat)(o:Oper):Bool:=match o.dst with
 |none=>true
 |some d=>Nat.blt d n
def z6j{n:Nat}{o:Oper}(h:jkr n o=true):Zc n o:=λt a=>by unfold jkr at h;simp_all
def SR.k(G:EG)(q:SR):SK:=⟨λk=>jbu q λx=>match jhn (zil q.fz G) (q.w x)with
 |true=>k (q.s x) (zh4 q.fz G++q.w x) ⟨q.rd,q.fz++q.tc⟩
 |false=>none⟩
def zjw:∀(a b:Wam (Nat×GB))(H:Wau),qv H (a++b)=qv (qv H a) b
 |[],b,H=>rfl
 |x::a,b,H=>by simp[wdw,qv];exact zjw a b _
def jgl:∀{D:Wam Nat}{G:EG}{H:Wau}{id:Nat},id∈D\/AgN H G id->AgN (qv H (zh4 D G)) (zil D G) id:=λ{D G H id}h=>by have g:∀{k:Nm},k.rt=some id->qv H (zh4 D G) k=Qx (zil D G id) k:=λ{k}b=>by{rw[zev];by_cases m:id∈D;{have f:zil D G id=⟨(G id).cv+1,none⟩:=by{unfold zil znc;rw[List.any_eq_true.2 ⟨id,m,wet id⟩]};rw[if_pos (Y7.2 ⟨id,by rw[zdo];omega,b⟩),f];have:∀{L:Wam Nat},id∈L->zlx (zh4 L G) k=Qx ⟨(G id).cv+1,none⟩ k:=by{intro L;induction L with|nil=>{simp}|cons a L n=>intro h;show(if ids (zh4 L G) k=true then zlx (zh4 L G) k else if k.rt=some a then Qx ⟨(G a).cv+1,none⟩ k else⟨0,none⟩)=_;by_cases j:id∈L;{rw[if_pos (Y7.2 ⟨id,by rw[zdo];omega,b⟩),n j]};.rcases wda.1 h with rfl|l;{rw[if_neg,if_pos b];intro d;obtain⟨i,e,c⟩:=Y7.1 d;rw[b]at c;cases c;rw[zdo]at e;grind};grind};grind};.have f:zil D G id=G id:=by{unfold zil znc;cases l:D.any (Nat.beq id)with|true=>{simp_all}|false=>rfl};rw[if_neg,f];{rcases h with h|h;{grind};.exact h.at b};.intro d;obtain⟨i,e,c⟩:=Y7.1 d;rw[b]at c;cases c;rw[zdo]at e;grind};exact wbi λk b=>g b
def SOk.k{P:Waq}{o:Oper}{E:EF}{G:EG}{q:SR}(h:SOk P o E G q):zou P o E G (q.k G):=λk r p=>by
 obtain⟨x,g,d⟩:=z5i p;split at d<;>try (cases d;done)
 rename_i f;refine⟨q.s x,zh4 q.fz G++q.w x,⟨q.rd,q.fz++q.tc⟩,d,λt=>?_,λid a=>by rw[wdb,zdo,h.1 x]at a;omega,λW n F H c m l b=>?_⟩;{show jbu q _=_;unfold jbu;rw[g];cases q.imm<;>simp[ja,f]}
 .have b:∀id,id∈q.rd\/id∈q.fz\/id∈q.tc->AgN H G id:=λid a=>b id (by rw[wdb,zdo,h.1 x,wcu];omega);have e:=z09 f;rw[zjw];refine PE.less (h.2 x g W n F H c m l λid a=>b id (by
   grind)) (jg6 λy i=>⟨(e y i).2.1,λj=>?_⟩)
  rw[(jgl (.inr (b y.1 (.inr (.inr (by rw[<- h.1 x];grind)))))).2,zsq (e y i).1];grind
def eqb(c w:Bool):Bool:=match c,w with
 |true,true=>true
 |false,false=>true
 |_,_=>false
def jeh{c w:Bool}:eqb c w=(c == w):=by cases c<;>cases w<;>rfl
def UND:TS :=.c undef
def NB:Nat:=16
section
variable(sy:SyT)(ctx n:Nat){β:Type}
def do1(b nx i:Nat)(o:Oper)(E:EF)(G:EG)(a:List RT)(k:EF->EG->List RT->Option β):Option β:=match sy ctx (nx+i*NB) (b*64+i) o E G with
 |some q=>q.run λs c rt=>k (E.put o.dst s) (sets G c) (a++[rt])
 |none=>none
def zby(ops:Array Oper)(a nx:Nat):List Oper->Nat->EF->EG->List RT->(EF->EG->List RT->Option β)->Option β
 |[],_,E,G,e,k=>k E G e
 |o::l,i,E,G,e,k=>match jkr n o with
  |false=>none
  |true=>match o.guard with
   |none=>do1 sy ctx a nx i o E G e λf g b=>zby ops a nx l (i+1) f g b k
   |some (j,w)=>match (ops[j]?).bind (·.dst)with
    |none=>none
    |some d=>match E d with
     |.c (.bool c)=>match eqb c w with
      |true=>do1 sy ctx a nx i o E G e λf g b=>zby ops a nx l (i+1) f g b k
      |false=>zby ops a nx l (i+1) (E.put o.dst UND) G (e++[⟨[],[]⟩]) k
     |.c (.tuple _)=>zby ops a nx l (i+1) (E.put o.dst UND) G (e++[⟨[],[]⟩]) k
     |.v ⟨.bool,c⟩=>ifB c
      (match w with
      |true=>do1 sy ctx a nx i o (E.put (some d) (.c (.bool true))) G e λf g b=>zby ops a nx l (i+1) f g b k
      |false=>zby ops a nx l (i+1) ((E.put (some d) (.c (.bool true))).put o.dst UND) G (e++[⟨[],[]⟩]) k)
      (match w with
      |false=>do1 sy ctx a nx i o (E.put (some d) (.c (.bool false))) G e λf g b=>zby ops a nx l (i+1) f g b k
      |true=>zby ops a nx l (i+1) ((E.put (some d) (.c (.bool false))).put o.dst UND) G (e++[⟨[],[]⟩]) k)
     |_=>none
end
def zrj{E:EF}{d:Nat}{s:TS}(h:(E d).den=s.den):Ju (E.put (some d) s)=Ju E:=by rw[zlz];funext t;unfold PFrame.put;by_cases e:some d=some t;{rw[if_pos e];cases e;exact h.symm};grind
def zgd{ops:Array Oper}{o:Oper}{j d:Nat}{w c:Bool}{E:EF}{F:Wav}(e:o.guard=some (j,w))(b:(ops[j]?).bind (·.dst)=some d)(a:F d=.u (.bool c)):Y8 ops o F=some (c == w):=by unfold Y8;grind
def jgi{ops:Array Oper}{o:Oper}{j d:Nat}{w:Bool}{vs:Array Wan}{F:Wav}(c:o.guard=some (j,w))(b:(ops[j]?).bind (·.dst)=some d)(a:F d=.u (.tuple vs)):Y8 ops o F=some false:=by unfold Y8;grind
inductive Out(P:Program)(n:Nat)(ops:Array Oper)(o:Oper)(E:EF)(G:EG):EF->EG->RT->Prop
 |done {E1:EF}{s:TS}{ws:List (Nat×GB)}{rt:RT}(he:Ju E1=Ju E) (hd:jkr n o=true) (hw:∀F:PFrame,(∀t∈o.looksAt ops,F t=Ju E t)->Y8 ops o F=some true) (hs:jq9 P o E1 G s ws rt):Out P n ops o E G (E1.put o.dst s) (sets G ws) rt
 |skip {E1:EF}(he:Ju E1=Ju E) (hd:jkr n o=true) (hw:∀F:PFrame,(∀t∈o.looksAt ops,F t=Ju E t)->Y8 ops o F=some false):Out P n ops o E G (E1.put o.dst UND) G ⟨[],[]⟩
def jc6{ops:Array Oper}{o:Oper}{j d:Nat}{w:Bool}(b:o.guard=some (j,w))(a:(ops[j]?).bind (·.dst)=some d):d∈o.looksAt ops:=by unfold Oper.looksAt;grind
def zqf{P:Waq}{sy:SyT}(e:zwp P sy){ctx:Nat}{β:Type}{c nx i:Nat}{o:Oper}{b:EF}{G:EG}{a:Wam RT}{k:EF->EG->Wam RT->Wal β}{r:β}(h:do1 sy ctx c nx i o b G a k=some r):
  ∃s d rt,jq9 P o b G s d rt/\k (b.put o.dst s) (sets G d) (a++[rt])=some r/\∀{γ:Type}(f:EF->EG->Wam RT->Wal γ),do1 sy ctx c nx i o b G a f=f (b.put o.dst s) (sets G d) (a++[rt]):=by
 unfold do1 at h;split at h<;>try (cases h;done)
 rename_i q l;obtain⟨s,d,rt,g,m,j⟩:=e _ _ _ _ _ _ _ l _ _ h;exact⟨s,d,rt,j,g,λf=>by unfold do1;grind⟩
def jj1{P:Waq}{sy:SyT}(y:zwp P sy){ctx n:Nat}{β:Type}{ops:Array Oper}{z nx:Nat}{o:Oper}{l:Wam Oper}{i:Nat}{E:EF}{G:EG}{v:Wam RT}{k:EF->EG->Wam RT->Wal β}{r:β}(h:zby sy ctx n ops z nx (o::l) i E G v k=some r):
  ∃B C rt,Out P n ops o E G B C rt/\zby sy ctx n ops z nx l (i+1) B C (v++[rt]) k=some r/\∀{γ:Type}(q:EF->EG->Wam RT->Wal γ),zby sy ctx n ops z nx (o::l) i E G v q=zby sy ctx n ops z nx l (i+1) B C (v++[rt]) q:=by
 unfold zby at h;split at h<;>try (cases h;done)
 rename_i g;split at h
 ·rename_i f;obtain⟨s,I,rt,p,A,D⟩:=zqf y h;exact⟨_,_,_,.done rfl g (λF _=>by unfold Y8;grind) p,A,λq=>by
   rw[zby];grind⟩
 ·rename_i j w f;split at h<;>try (cases h;done)
  rename_i d a;have p:=jc6 f a;split at h
  ·rename_i c x;have m:∀F:Wav,(∀t∈o.looksAt ops,F t=Ju E t)->F d=.u (.bool c):=λF m=>by rw[m d p];unfold Ju;rw[x];rfl
   split at h
   ·rename_i H;obtain⟨s,I,rt,p,A,D⟩:=zqf y h;refine⟨_,_,_,.done rfl g (λF e=>by rw[zgd (E:=E) f a (m F e),<- jeh,H]) p,A,λq=>?_⟩;rw[zby];grind
   ·rename_i H;refine⟨_,_,_,.skip rfl g (λF e=>by rw[zgd (E:=E) f a (m F e),<- jeh,H]),h,λq=>?_⟩;rw[zby];grind
  ·rename_i L x;refine⟨_,_,_,.skip rfl g (λF e=>jgi f a (by rw[e d p];unfold Ju;rw[x];rfl)),h,λq=>?_⟩;rw[zby];grind
  ·rename_i c x;have b:(E d).den=(TS.c (.bool c)).den:=by rw[x];rfl
   have m:∀F:Wav,(∀t∈o.looksAt ops,F t=Ju E t)->F d=.u (.bool c):=λF m=>by rw[m d p];assumption
   unfold ifB at h;split at h
   ·split at h
    ·obtain⟨s,I,rt,p,A,D⟩:=zqf y h;refine⟨_,_,_,.done (zrj b) g (λF e=>by rw[zgd (E:=E) f a (m F e)];rfl) p,A,λq=>?_⟩;rw[zby];simp[g,f,a,x,ifB];grind
    ·refine⟨_,_,_,.skip (zrj b) g (λF e=>by rw[zgd (E:=E) f a (m F e)];rfl),h,λq=>?_⟩;rw[zby];simp[g,f,a,x,ifB]
   ·split at h
    ·obtain⟨s,I,rt,p,A,D⟩:=zqf y h;refine⟨_,_,_,.done (zrj b) g (λF e=>by rw[zgd (E:=E) f a (m F e)];rfl) p,A,λq=>?_⟩;rw[zby];simp[g,f,a,x,ifB];grind
    ·refine⟨_,_,_,.skip (zrj b) g (λF e=>by rw[zgd (E:=E) f a (m F e)];rfl),h,λq=>?_⟩;rw[zby];simp[g,f,a,x,ifB]
  grind
section
variable{P:Program}{W:Env}{n:Nat}{R:PHeap}{sy:SyT}{ctx:Nat}
def jre(P:Program)(W:Env)(n:Nat)(ops:Array Oper)(R:PHeap)(o:Oper)(E:EF)(G:EG)(c:OC)(rt:RT)(a:EF)(G':EG):Prop:=
 (∀F H,FlW W F H->(∀t∈o.looksAt ops,F t=Ju E t)->(∀k:Nm,((∃id∈rt.rd,k.rt=some id)\/ids c.ws k=true)->H k=qp G R k)->z8u P W n ops o F H c) /\
 Ju a=(Ju E).put o.dst c.p/\qp G' R=qv (qp G R) c.ws/\(∀k:Nm,ids c.ws k=true->∃id∈rt.tc,k.rt=some id)/\Fl c.p/\∀k,FlB (zlx c.ws k)
def jav:∀(ws:Wam (Nat×GB))(k:Nm),FlB (zlx ws k)
 |[],k=>λa h=>by trivial
 |x::r,k=>by simp[zlx];split;{exact jav r k};.split;{exact jwi _ _};.exact λa h=>X
def z17{ops:Array Oper}{o:Oper}{t:Nat}(h:Operand.tmp t∈o.op.operands):t∈o.looksAt ops:=by unfold Oper.looksAt;refine wem _ ?_;rw[List.mem_filterMap];exact⟨_,by simpa using h,rfl⟩
def Out.step{ops:Array Oper}{o:Oper}{E:EF}{G:EG}{m:EF}{G':EG}{rt:RT}(h:Out P n ops o E G m G' rt):∃c,∀W R,jre P W n ops R o E G c rt m G':=by cases h with| @done q s y rt f g l v=>{obtain⟨w,j⟩:=v;refine⟨⟨s.den,y⟩,λW R=>⟨λF H d e p=> .inl ⟨l F e,?_⟩,?_,z52 R _ _,λk b=>?_,zap _,jav _⟩⟩;{refine j W n F H d (z6j g) (λt x=>?_) λid a=>?_;{rw[e t (z17 x),<- f];rfl};.refine wbi λk b=>?_;rw[p k ?_,jvi b];rcases a with a|a;{grind};.exact .inr (Y7.2 ⟨id,a,b⟩)};{rw[zlz,f]};.obtain⟨id,r,A⟩:=Y7.1 b;grind}| @skip q f g l=>refine⟨⟨.u undef,[]⟩,λW R=>⟨λF H d e p=> .inr ⟨l F e,z6j g,rfl,rfl⟩,?_,rfl,λk b=>(by obtain⟨i,r,_⟩:=Y7.1 b;grind),.noP (.u _),λk z h=>by trivial⟩⟩;rw[zlz,f];rfl
def PE.mono{o:Oper}{F:Wav}{H:Wau}{k c:PV->Wau->Prop}(h:PE P W n o F H k)(g:∀p b,k p b->c p b):PE P W n o F H c:=λV a w i=>
 Oper.wp_mono (λj l⟨p,b,d,e,f⟩=>⟨p,b,d,g p b e,f⟩) (h V a w i)
def RFl(R:PHeap):Prop:=∀i,FlB (R i)
def z8p(b:∀i,Fl (W.G i))(a:RFl R)(E:EF)(G:EG):FlW W (Ju E) (qp G R):=⟨b,λt=>zap _,λk=>by
 cases k with
 |o i=>exact ji3 i _
 |c i j=>exact jid _ j
 |r x=>exact a x⟩
inductive Steps(P:Program)(n:Nat)(ops:Array Oper):List Oper->EF->EG->List OC->List RT->EF->EG->Prop
 |nil {E:EF}{G:EG}:Steps P n ops [] E G [] [] E G
 |cons {o:Oper}{l:List Oper}{E E1 E':EF}{G G1 G':EG}{c:OC}{rt:RT}{cs:List OC}{rts:List RT}(h:∀W R,jre P W n ops R o E G c rt E1 G1) (hs:Steps P n ops l E1 G1 cs rts E' G'):Steps P n ops (o::l) E G (c::cs) (rt::rts) E' G'
def Steps.seq(m:∀i,Fl (W.G i))(k:RFl R){ops:Array Oper}{K:Wav->Wau->Prop}:∀{l:Wam Oper}{E a:EF}{G G':EG}{cs:Wam OC}{g:Wam RT},Steps P n ops l E G cs g a G'->K (Ju a) (qp G' R)->PL P W n ops l (Ju E) (qp G R) K
 |[],_,_,_,_,_,_,.nil,c=>PL.nil c
 |o::l,E,a,G,G',_,_,.cons (G1:=G1) h v,c=>by
  obtain⟨s,j,b,_⟩:=h W R;have x:=Steps.seq m k v c;rcases s (Ju E) (qp G R) (z8p m k E G) (λ_ _=>rfl) (λ_ _=>rfl)with⟨e,d⟩|⟨e,t,u,f⟩
  {refine PL.cons e (PE.mono d λp w⟨q,r⟩=>?_);rwa [q,r,<- j,<- b]};.refine PL.skip e t ?_;rw[<- u,<- j];rw[f]at b;rwa [show qp G R=qp G1 R from b.symm]
def zgm{β:Type}(g:zwp P sy){ops:Array Oper}{j nx:Nat}{k:EF->EG->Wam RT->Wal β}{r:β}:∀l i E G a,zby sy ctx n ops j nx l i E G a k=some r->∃cs b d e,Steps P n ops l E G cs b d e/\k d e (a++b)=some r/\∀{γ:Type}(m:EF->EG->Wam RT->Wal γ),zby sy ctx n ops j nx l i E G a m=m d e (a++b)
 |[],i,E,G,a,h=>⟨[],[],E,G,.nil,by simpa only [zby,wc1]using h,λm=>by simp[zby,wc1]⟩
 |o::l,i,E,G,a,h=>by obtain⟨d,e,rt,f,h,w⟩:=jj1 g h;obtain⟨c,t⟩:=f.step;obtain⟨cs,b,p,q,s,u,v⟩:=zgm g l (i+1) d e _ h;exact⟨c::cs,rt::b,p,q,.cons t s,X,λm=>X⟩
def ocF(cs:List OC)(m:Nat):OC:=cs.getD m ⟨.unk,[]⟩
def rtF(a:List RT)(m:Nat):RT:=a.getD m ⟨[],[]⟩
def jnw{ops:Array Oper}{oc:Nat->OC}{F0:Wav}{i:Nat}{o:Oper}(a:ops[i]?=some o):fAt ops oc F0 (λ_=>true) (i+1)=(fAt ops oc F0 (λ_=>true) i).put o.dst (oc i).p:=by funext t;show(if(true && zw6 ops i t)=true then(oc i).p else fAt ops oc F0 (λ_=>true) i t)=_;unfold PFrame.put zw6;rw[a];simp[wdv,weu];cases o.dst with|none=>{simp}|some d=>simp
def jm6{oc:Nat->OC}{H0:Wau}{i:Nat}:hAt oc H0 (λ_=>true) (i+1)=qv (hAt oc H0 (λ_=>true) i) (oc i).ws:=by funext k;rw[zev];rfl
def Steps.at{ops:Array Oper}{F0:Wav}{H0:Wau}{oc:Nat->OC}{rtf:Nat->RT}:∀{l:Wam Oper}{E r:EF}{G G':EG}{cs:Wam OC}{f:Wam RT}i,Steps P n ops l E G cs f r G'->(∀m o,l[m]?=some o->ops[i+m]?=some o)->(∀m c,cs[m]?=some c->oc (i+m)=c)->(∀m rt,f[m]?=some rt->rtf (i+m)=rt) ->
  Ju E=fAt ops oc F0 (λ_=>true) i->qp G R=hAt oc H0 (λ_=>true) i ->
  (∀m o,l[m]?=some o->∀W F H,FlW W F H->(∀t∈o.looksAt ops,F t=fAt ops oc F0 (λ_=>true) (i+m) t)->(∀k,((∃id∈(rtf (i+m)).rd,k.rt=some id)\/ids (oc (i+m)).ws k=true)->H k=hAt oc H0 (λ_=>true) (i+m) k)->z8u P W n ops o F H (oc (i+m))) /\
  (∀m o,l[m]?=some o->∀k,ids (oc (i+m)).ws k=true->∃id∈(rtf (i+m)).tc,k.rt=some id) /\
  Ju r=fAt ops oc F0 (λ_=>true) (i+l.length)/\qp G' R=hAt oc H0 (λ_=>true) (i+l.length) /\
  ∀m,m<l.length->Fl (oc (i+m)).p/\∀k,FlB (zlx (oc (i+m)).ws k)
 |[],_,_,_,_,_,_,i,.nil,_,_,_,j,q=>⟨λm o h=>X,λm o h=>X,j,q,λm h=>X⟩
 |o::l,E,r,G,G',_,_,i,.cons (c:=c) (rt:=rt) h C,x,w,y,j,q=>by
  have a:oc i=c:=w 0 c rfl;have d:rtf i=rt:=y 0 rt rfl;have B:ops[i]?=some o:=x 0 o rfl;have e:∀m,i+(m+1)=i+1+m:=λm=>U;obtain⟨L,M,N,O,Q⟩:=Steps.at (i+1) C (λm u b=>by rw[<- e];exact x (m+1) u X) (λm z b=>by rw[<- e];exact w (m+1) z X) (λm I b=>by rw[<- e];exact y (m+1) I X)
   (by rw[jnw B,<- j,a];exact(h jqy R).2.1) (by rw[jm6,<- q,a];exact(h jqy R).2.2.1)
  refine⟨λm u b=>?_,λm u b=>?_,X,X,λm b=>?_⟩;{cases m with|zero=>{simp[List.getElem?_cons_zero,wdn]at b;subst b;intro W F H s v g;simp[wd9]at v g⊢;rw[a]at g⊢;rw[d]at g;exact(h W R).1 F H s (λt D=>by rw[v t D,j]) λk A=>by rw[g k A,q]}|succ m=>grind};{cases m with|zero=>{simp[wd9];rw[a,d];exact(h jqy R).2.2.2.1}|succ m=>grind};.cases m with|zero=>{simp[wd9];rw[a];exact(h jqy R).2.2.2.2}|succ m=>grind
def Steps.len{ops:Array Oper}:∀{l:Wam Oper}{E b:EF}{G G':EG}{cs:Wam OC}{a:Wam RT},Steps P n ops l E G cs a b G'->cs.length=l.length/\a.length=l.length
 |[],_,_,_,_,_,_,.nil=>⟨rfl,rfl⟩
 |_::_,_,_,_,_,_,_,.cons h c=>by obtain⟨d,e⟩:=c.len;grind
def zon(a b:List Nat):Bool:=a.any (znc b)
def jtg{l:Wam Nat}{x:Nat}(h:x∈l):znc l x=true:=List.any_eq_true.2 ⟨x,h,wet x⟩
def zgb{a b:Wam Nat}{x:Nat}(c:x∈a)(d:x∈b):zon a b=true:=List.any_eq_true.2 ⟨x,c,jtg d⟩
def jl2(o:Oper):List Nat:=match o.dst with
 |some d=>[d]
 |none=>[]
def jia(ops:Array Oper)(a b:Oper)(c d:RT):Bool:=zon (jl2 a) (jl2 b) ||zon (jl2 a) (b.looksAt ops) ||zon (jl2 b) (a.looksAt ops) ||zon c.tc d.tc ||zon c.tc d.rd ||zon d.tc c.rd
def z7z(ops:Array Oper)(a:Nat)(c:Oper)(d:RT):Nat->List Oper->List RT->Bool
 |i,e::l,f::b=>(Nat.testBit a i || !(jia ops e c f d)) && z7z ops a c d (i+1) l b
 |_,_,_=>true
def z6z(ops:Array Oper)(a:List Nat)(pre:List Oper)(b:List RT):List Oper->List RT->Bool
 |o::l,rt::c=>z7z ops (a.getD pre.length 0) o rt 0 pre b && z6z ops a (pre++[o]) (b++[rt]) l c
 |_,_=>true
def jut:Nat->List Oper->Bool
 |_,[]=>true
 |j,o::l=>o.after.toList.all (λe=>!(Region.binds .any e) ||Nat.blt e.on j) && jut (j+1) l
def je6(ops:Array Oper)(a:List RT):Bool:=jut 0 ops.toList && z6z ops (jug ops.toList []) [] [] ops.toList a
def zus{ops:Array Oper}{a:Nat}{e:Oper}{f:RT}:∀{l:Wam Oper}{b:Wam RT}{i:Nat},z7z ops a e f i l b=true->∀m c d,l[m]?=some c->b[m]?=some d->jia ops c e d f=true->Nat.testBit a (i+m)=true
 |[],_,_,_,m,c,d,g,_,_=>X
 |_::_,[],_,_,m,c,d,_,j,_=>X
 |o::l,rt::b,i,h,m,c,d,g,j,k=>by simp[z7z,wco,Bool.or_eq_true,wd6]at h;cases m with|zero=>{grind}|succ m=>have:=zus h.2 m c d X X k;grind
def zuy{ops:Array Oper}{e:Wam Nat}:∀{l:Wam Oper}{b:Wam RT}{pre:Wam Oper}{a:Wam RT},pre.length=a.length->z6z ops e pre a l b=true->∀m c d,l[m]?=some c->b[m]?=some d->∀i f g,i<pre.length+m->(pre++l)[i]?=some f->(a++b)[i]?=some g->jia ops f c g d=true->Nat.testBit (e.getD (pre.length+m) 0) i=true
 |[],_,_,_,_,_,m,c,d,j,_,_,_,_,_,_,_,_=>X
 |_::_,[],_,_,_,_,m,c,d,_,k,_,_,_,_,_,_,_=>X
 |o::l,rt::b,pre,a,q,h,m,c,d,j,k,i,f,g,p,r,s,n=>by simp[z6z,wco]at h;cases m with|zero=>{simp at j k;subst j;subst k;simp[wd9]at p⊢;have:=zus h.1 i f g X X n;grind}|succ m=>have:=zuy X h.2 m c d X X i f g X X X n;grind
def z3n:∀{l:Wam Oper}{j:Nat},jut j l=true->∀m o,l[m]?=some o->∀e∈o.after,Region.binds .any e=true->e.on<j+m
 |[],_,_,m,o,a,_,_,_=>X
 |o::l,j,h,m,d,a,e,c,b=>by simp only[jut,wco,wdu]at h;cases m with|zero=>{simp at a;subst a;have:=h.1 e X;simp_all}|succ m=>have:=z3n h.2 m d X e c b;omega
def z04{ops:Array Oper}{i t:Nat}{o:Oper}(a:ops[i]?=some o)(h:zw6 ops i t=true):t∈jl2 o:=by unfold zw6 at h;rw[a]at h;simp[wdv]at h;unfold jl2;split at h;{simp_all};grind
def Steps.drawn(M:∀i,Fl (W.G i))(hR:RFl R)(hm:P.follows .mixedOrders=true){ops:Array Oper}{id:Nat}{E I:EF}{G G':EG}{cs:Wam OC}{b:Wam RT}(Q:Steps P n ops ops.toList E G cs b I G')(p:je6 ops b=true):PC P W n (.region id ops true) (Ju E) (qp G R) λe Z J=>e=.normal/\Z=Ju I/\J=qp G' R:=by
 unfold je6 at p;simp[wco]at p;obtain⟨B,z⟩:=p;obtain⟨l1,l2⟩:=Q.len;have s:∀m o,ops.toList[m]?=some o->ops[0+m]?=some o:=λm o h=>X;obtain⟨T,x,k3,k4,k5⟩:=Steps.at (F0:=Ju E) (H0:=qp G R) (oc:=ocF cs) (rtf:=rtF b) 0 Q s (λm c hc=>by unfold ocF;grind) (λm rt hc=>by unfold rtF;grind) rfl rfl;simp[wd0]at T x k3 k4 k5;have r:=jhj (ops:=ops) ops.toList [] (λk o N=>X) (λk i N=>X);refine wbv (rt:=λm k=>(rtF b m).rd.any λid=>k.rt == some id) (Inv:=λF H=>FlW W F H) (λS=>⟨M,λt=>?_,λk=>?_⟩) hm (λi o ho F H A g d=>T i o X W F H A g λk N=>d k ?_) (λi j a7 hj C=>?_) (λj o ho e he hb=>?_) ⟨rfl,?_,?_⟩
 .rcases zzz ops.size with e|⟨m,hm,_,e⟩
  {unfold fAt;rw[e];exact zap _};.unfold fAt;grind
 .rcases zzz ops.size with e|⟨m,hm,_,e⟩
  {unfold hAt;rw[e];exact(z8p M hR E G).h k};.unfold hAt;grind
 {grind}
 .obtain⟨oj,f⟩:∃o,ops[j]?=some o:=⟨_,wdf hj⟩
  obtain⟨oi,l⟩:∃o,ops[i]?=some o:=⟨_,wdf (show i<ops.size by omega)⟩
  have O:ops.toList.length=ops.size:=V;have D:b[j]?=some (rtF b j):=by{unfold rtF;grind};have b0:b[i]?=some (rtF b i):=by{unfold rtF;grind};refine r j i ?_;have u:=zuy rfl z j _ _ (by simpa using f) D i _ _ U (by simpa using l) (by assumption);simp[weo,wd0]at u;refine u ?_;have v:∀m(k:Nm),((rtF b m).rd.any λid=>k.rt == some id)=true->∃id∈(rtF b m).rd,k.rt=some id:=λm k h=>by{grind};unfold jia;simp[Bool.or_eq_true];rcases C with⟨t,g,d⟩|⟨t,g,o,d,y⟩|⟨k,g,d⟩|⟨k,g,d⟩
  .have Y:=z04 l g;rcases d with d|⟨o,d,y⟩
   {exact .inl (.inl (.inl (.inl (.inl (zgb Y (z04 f d))))))};.rw[f]at d;cases d;exact .inl (.inl (.inl (.inl (.inr (zgb Y y)))))
  {rw[l]at d;cases d;exact .inl (.inl (.inl (.inr (zgb (z04 f g) y))))};{obtain⟨a,w,a2⟩:=x i _ (by simpa using l) k g;rcases d with d|d;{obtain⟨c,q,L⟩:=x j _ (by simpa using f) k d;have:a=c:=X;subst this;exact .inl (.inl (.inr (zgb w q)))};.obtain⟨c,q,L⟩:=v j k d;have:a=c:=X;subst this;exact .inl (.inr (zgb w q))};.obtain⟨a,w,a2⟩:=x j _ (by simpa using f) k g;obtain⟨c,q,L⟩:=v i k d;have:a=c:=X;subst this;exact .inr (zgb w q)
 {have:=z3n B j o X e he hb;omega};{grind};grind
end
structure MS where
 it:Nat
 ver:Nat
 mid:Nat
 mver:Nat
 kt:Ty
 lt:TypeId
 t:Ty
 es:List (kt.D×List t.D×Unit)
 kv:Nat
 mask:List Bool
def jbt(x:Operand)(E:EF)(G:EG):Option MS:=match evE E x with
 |.own f e=>match Nat.beq (G f).ver e with
  |true=>match (G f).b with
   |some (.iter c a d none)=>match Nat.beq (G c).ver a with
    |true=>match (G c).b with
     |some (.mrows g lt t h kv none)=>match plT g with
      |true=>some ⟨f,e,c,a,g,lt,t,h,kv,d⟩
      |false=>none
     |_=>none
    |false=>none
   |_=>none
  |false=>none
 |_=>none
def eqD:(t:Ty)->t.D->t.D->Bool
 |.int _,a,b=>decide (a=b)
 |.bool,a,b=>a == b
 |.str,a,b=>a == b
 |.nil,_,_=>true
 |.cons a r,x,y=>eqD a x.1 y.1 && eqD r x.2 y.2
 |.st r,x,y=>eqD r x y
 |_,_,_=>true
def zq5:∀t x,eqD t x x=true
 |.int _,a=>by simp[eqD]
 |.bool,a=>by simp[eqD]
 |.str,a=>by simp[eqD]
 |.nil,_=>rfl
 |.cons a r,x=>by simp[eqD,zq5 a,zq5 r]
 |.st r,x=>by simp[eqD];exact zq5 r x
 |.sl _,_=>rfl
 |.ref _,_=>rfl
 |.arr _ _,_=>rfl
 |.tup _,_=>rfl
def z4u{α:Type}(f:α->α->Bool):List α->Bool
 |[]=>true
 |x::l=>l.all (λy=>!f x y) && z4u f l
def jbf{α:Type}{f:α->α->Bool}(g:∀x,f x x=true):∀{l:Wam α},z4u f l=true->∀(i j:Nat)a b,i≠j->l[i]?=some a->l[j]?=some b->a≠b
 |[],_,i,j,a,b,_,h,_=>X
 |x::l,h,i,j,a,b,k,c,d=>by simp[z4u,wco,wdu,wd6]at h;intro e;subst e;cases i with|zero=>{cases j with|zero=>{omega}|succ j=>simp at c d;subst c;have:=h.1 _ (wcq d);grind}|succ i=>cases j with|zero=>{simp at c d;subst d;have:=h.1 _ (wcq c);grind}|succ j=>exact jbf g h.2 i j a a U X X rfl
def zvq(m:MS):Bool:=Nat.beq m.mask.length m.es.length && (m.mask.all (λb=>!b) && z4u (eqD m.kt) (m.es.map λe=>e.1))
def zsb{α:Type}(l:List α)(j:Nat):Option α:=l[j]?
section
variable{σ β:Type}
def z2f(B:Nat->σ->Option σ)(fin:σ->Option β):Nat->Nat->σ->Option β
 |0,_,t=>fin t
 |m+1,j,t=>ja (B j t) (z2f B fin m (j+1))
def zqa(a:σ->Option MS)(B:Nat->σ->Option σ)(fin:σ->Option β)(t:σ):Option β:=match a t with
 |none=>none
 |some m=>match zvq m with
  |true=>z2f B fin m.es.length 0 t
  |false=>none
structure z1b(see:σ->Option MS)(B:Nat->σ->Option σ):Prop where
 keep:∀(j:Nat)(t t':σ)(m:MS),B j t=some t'->see t=some m->see t'=some { m with mask:=m.mask.set j true }
 swap:∀(i j:Nat)(t:σ)(m:MS)(a b:m.kt.D×List m.t.D×Unit),i≠j->see t=some m->m.es[i]?=some a->m.es[j]?=some b->a.1≠b.1->ja (B i t) (B j)=ja (B j t) (B i)
open Classical in
def mrC(a:σ->Option MS)(B:Nat->σ->Option σ)(fin:σ->Option β)(t:σ):Option β:=if z1b a B then zqa a B fin t else none
def z7g{a:σ->Wal MS}{B:Nat->σ->Wal σ}(h:z1b a B):@mrC σ β a B=zqa a B:=by funext fin t;exact if_pos h
def jqf{a:σ->Wal MS}{B:Nat->σ->Wal σ}{fin:σ->Wal β}{t:σ}{r:β}(h:mrC a B fin t=some r):∃b,b=B/\z1b a b/\∃m,a t=some m/\zvq m=true/\z2f b fin m.es.length 0 t=some r:=by unfold mrC at h;(split at h<;>try (cases h;done));rename_i c;unfold zqa at h;grind
def mrC_at{a:σ->Wal MS}{B:Nat->σ->Wal σ}{fin:σ->Wal β}{t:σ}{m:MS}(b:z1b a B)(hm:a t=some m)(c:zvq m=true):mrC a B fin t=z2f B fin m.es.length 0 t:=by rw[z7g b];unfold zqa;grind
def zdb(B:Nat->σ->Option σ):List Nat->σ->Option σ
 |[],t=>some t
 |j::L,t=>ja (B j t) (zdb B L)
def zhf{α γ δ:Type}(o:Wal α)(f:α->Wal γ)(g:γ->Wal δ):ja (ja o f) g=ja o λx=>ja (f x) g:=by cases o<;>rfl
def zte{B:Nat->σ->Wal σ}{fin:σ->Wal β}:∀m j t,z2f B fin m j t=ja (zdb B (List.range' j m) t) fin
 |0,j,t=>rfl
 |m+1,j,t=>by rw[List.range'_succ];simp[z2f,zdb,zhf];congr 1;funext s;exact zte m (j+1) s
def zjv{B:Nat->σ->Wal σ}:∀L M t,zdb B (L++M) t=ja (zdb B L t) (zdb B M)
 |[],M,t=>rfl
 |j::L,M,t=>by simp[wdw,zdb,zhf];congr 1;funext s;exact zjv L M s
def zn0(L:List Nat)(k:List Bool):List Bool:=L.foldl (λk j=>k.set j true) k
def z4b:∀L k,(zn0 L k).length=k.length
 |[],k=>rfl
 |j::L,k=>by show(zn0 L (k.set j true)).length=_;rw[z4b L];simp
def ztb:∀L k i,i<k.length->(zn0 L k)[i]?=if i∈L then some true else k[i]?
 |[],k,i,_=>by simp[zn0]
 |j::L,k,i,h=>by show(zn0 L (k.set j true))[i]?=_;rw[ztb L _ i X,wdl];grind
def z3o{a:σ->Wal MS}{B:Nat->σ->Wal σ}(d:z1b a B):∀L t b m,zdb B L t=some b->a t=some m->a b=some { m with mask:=zn0 L m.mask }
 |[],t,b,m,h,c=>by cases h;exact c
 |j::L,t,b,m,h,c=>by obtain⟨s,e,f⟩:=qw h;exact z3o d L s b _ f (d.keep j t s m e c)
def zz0{d:σ->Wal MS}{B:Nat->σ->Wal σ}(p:z1b d B){m:MS}(v:∀(i j:Nat)a b,i≠j->m.es[i]?=some a->m.es[j]?=some b->a.1≠b.1){f o:Wam Nat}(w:f.Perm o):f.Nodup->(∀j∈f,j<m.es.length)->∀t k,d t=some { m with mask:=k }->zdb B f t=zdb B o t:=by induction w with|nil=>{simp}|cons x _ z=>{intro q g t k n;simp[zdb];cases h:B x t with|none=>{rfl}|some s=>exact z (wfb.1 q).2 (λj G=>g j X) s _ (p.keep x t s { m with mask:=k } h n)}|swap x y l=>{intro q g t k n;have c:y≠x:=λe=>X;have u:=g y V;have r:=g x V;simp[zdb];rw[<- zhf,<- zhf,p.swap y x t { m with mask:=k } _ _ c n (wch u) (wch r) (v _ _ _ _ c (wch u) (wch r))]}|trans D F A C=>grind
def jb1{c:σ->Wal MS}{B:Nat->σ->Wal σ}(f:z1b c B){m:MS}(g:∀(i j:Nat)a b,i≠j->m.es[i]?=some a->m.es[j]?=some b->a.1≠b.1){L:Wam Nat}(k:L.Nodup)(q:∀j∈L,j<m.es.length){t tn:σ}(hm:c t=some m)(h:zdb B (List.range' 0 m.es.length) t=some tn):∃s,zdb B L t=some s:=by have d:(L++(range m.es.length).filter λi=>!L.contains i).Perm (List.range' 0 m.es.length):=by{rw[<- List.range_eq_range'];refine(List.perm_ext_iff_of_nodup ?_ List.nodup_range).2 λi=>?_;{rw[List.nodup_append];refine⟨k,List.nodup_range.sublist List.filter_sublist,λa n b o e=>?_⟩;grind};grind};have:=zz0 f g d (d.nodup_iff.2 X) (λj p=>X) t m.mask hm;rw[h,zjv]at this;obtain⟨s,l,_⟩:=qw this;grind
def jlm{c:σ->Wal MS}{B:Nat->σ->Wal σ}(d:z1b c B){m:MS}(e:∀(i j:Nat)a b,i≠j->m.es[i]?=some a->m.es[j]?=some b->a.1≠b.1){L:Wam Nat}(k:L.Nodup)(g:∀j,j∈L↔j<m.es.length){t tn s:σ}(hm:c t=some m)(h:zdb B (List.range' 0 m.es.length) t=some tn)(n:zdb B L t=some s):s=tn:=by have l:L.Perm (List.range' 0 m.es.length):=by{grind};have:=zz0 d e l k (λj f=>(g j).1 f) t m.mask hm;grind
end
def mrV(m:MS)(j:Nat)(e:m.kt.D×List m.t.D×Unit):TS :=.tup [.c (.bool true),.v ⟨m.kt,e.1⟩,.kid m.mid (j:Int) (m.mver+m.kv)]
def mrG(m:MS)(G:EG)(j:Nat):EG:=G.set m.it ⟨m.ver,some (.iter m.mid m.mver (m.mask.set j true) (some j))⟩
def jjj(n:Nat)(o:Oper):Option Operand:=match o.op with
 |.next x false=>match o.guard with
  |none=>match jkr n o with
   |true=>some x
   |false=>none
  |_=>none
 |_=>none
def jf3{n:Nat}{o:Oper}{x:War}(h:jjj n o=some x):o.op=.next x false/\o.guard=none/\Zc n o:=by
 unfold jjj at h;split at h<;>try (cases h;done)
 rename_i d c;split at h<;>try (cases h;done)
 rename_i b;split at h<;>cases h;rename_i a;exact⟨c,b,z6j a⟩
def jfz{x:War}{E:EF}{G:EG}{m:MS}(h:jbt x E G=some m):evE E x=.own m.it m.ver/\G m.it=⟨m.ver,some (.iter m.mid m.mver m.mask none)⟩/\G m.mid=⟨m.mver,some (.mrows m.kt m.lt m.t m.es m.kv none)⟩/\plT m.kt=true:=by
 unfold jbt at h;split at h<;>try (cases h;done)
 rename_i i g f;split at h<;>try (cases h;done)
 rename_i e;split at h<;>try (cases h;done)
 rename_i c;split at h<;>try (cases h;done)
 rename_i b;split at h<;>try (cases h;done)
 rename_i a;split at h<;>cases h;rename_i d;refine⟨f,?_,?_,d⟩;{rw[<- c,<- wcn e]};.rw[<- a,<- wcn b]
def z42{H:Wau}{id:Nat}{x:GB}(a:x.flat=true)(h:∀j,H (.c id j)=⟨x.ver,none⟩):H.set (.o id) (vz id x)=zlp H id x:=by funext k;unfold PHeap.set zlp;cases k with|o i=>{by_cases e:i=id<;>simp[Nm.rt,Qx,e]}|r _=>{rfl}|c i j=>by_cases e:i=id;{subst e;simp[Nm.rt,Qx,zsq a,h]};.simp[Nm.rt,e]
section
variable{P:Program}{W:Env}{n:Nat}{R:PHeap}
def jtj{ops:Array Oper}{o:Oper}{l:Wam Oper}{E:EF}{G:EG}{x:War}{m:MS}{K:Wav->Wau->Prop}(v:jjj n o=some x)(z:jbt x E G=some m)(w:m.mask.length=m.es.length)
  (h0:(∀i,i<m.es.length->m.mask[i]?=some true)->PL P W n ops l (Ju (E.put o.dst (.tup [.c (.bool false)]))) (qp G R) K)
  (r:∀j e,m.es[j]?=some e->m.mask[j]?=some false->PL P W n ops l (Ju (E.put o.dst (mrV m j e))) (qp (mrG m G j) R) K):PL P W n ops (o::l) (Ju E) (qp G R) K:=by
 obtain⟨y,H,t⟩:=jf3 v;obtain⟨A,q,B,C⟩:=jfz z;have s:qp G R (.o m.mid)=⟨m.mver,some (V3 (m.es.map λe=>oV m.kt e.1) (range m.es.length) m.es.length ((range m.es.length).map (Hole.cell m.mid (m.mver+m.kv) none)))⟩:=by
  show vz m.mid (G m.mid)=_;rw[B];rfl
 have b:qp G R (.o m.it)=⟨m.ver,some (itB (.o m.mid) m.mver m.mask none)⟩:=by
  show vz m.it (G m.it)=_;rw[q];rfl
 refine PL.cons (by unfold Y8;grind) (wcc y t s b w (by rw[zxe,A];rfl) (λa=>?_) λj c k h f p d=>?_)
 ·have:=h0 a;rw[zlz]at this;trivial
 ·have g:=wch h;have:=r j _ g d;rw[zlz]at this;rw[wcv,g]at p;rw[wcv,List.getElem?_range h]at f;cases p;cases f;have D:(mrV m j m.es[j]).den=.tup [.u (.bool true),ofV (oV m.kt m.es[j].1),Hole.cell m.mid (m.mver+m.kv) none j]:=by
   simp only[mrV,TS.den,zq,zz2 _ _ C];rfl
  have F:qp (mrG m G j) R=(qp G R).set (.o m.it) ⟨m.ver,some (itB (.o m.mid) m.mver (m.mask.set j true) (some j))⟩:=by
   unfold mrG;rw[jah,<- z42 rfl λi=>?_]
   ·rfl
   ·show zcc (G m.it) i=_;rw[q];rfl
  grind
end
inductive HK where
 |meet (h:LH)
 |unroll (m:Nat)
 |mr (h:LH)
 |cut (h0 h:LH)
abbrev EK(β:Type):=Exit->Nat->EF->EG->Option β
def jev{β:Type}(B:Nat->Nat->EF->EG->EK β->Option β)(k:EK β):Nat->Nat->Nat->EF->EG->Option β
 |0,_,_,_,_=>none
 |m+1,p,d,E,G=>B (2*p) d E G λe a b c=>match e with
  |.normal=>jev B k m (2*p+1) a b c
  |e=>k e a b c
section
variable(sy:SyT)(fuel:Nat)(hint:Nat → Option HK)(ctx b n:Nat)
def jkc{β:Type}(id:Nat)(ops:Array Oper)(a:Bool)(nx:Nat)(E:EF)(G:EG)(k:EF->EG->Option β):Option β:=match a with
 |false=>zby sy ctx n ops id nx ops.toList 0 E G [] λb c _=>k b c
 |true=>zby sy ctx n ops id nx ops.toList 0 E G [] λb c d=>match je6 ops d with
  |true=>k b c
  |false=>none
def vq:Code->Nat->Nat->{β:Type}->EF->EG->EK β->Option β
 |.skip,_,g,_,E,G,k=>k .normal g E G
 |.ret,_,g,_,E,G,k=>k .ret g E G
 |.exit id,_,g,_,E,G,k=>k (.exit id) g E G
 |.seq x y,p,g,_,E,G,k=>match hint p with
  |some (.meet h)=>J (λt=>vq y (2*p+1) h.nx (unE h (Jc h.tys t)) (unG h (Jc h.tys t)) k) λj=>vq x (2*p) g E G λe a d f=>match e with
   |.normal=>meet b h j d f
   |e=>k e a d f
  |some (.cut h0 h)=>match z8i b h0 E G with
   |none=>none
   |some w=>ja (vq x (2*p) h0.nx (unE h0 (Jc h0.tys w)) (unG h0 (Jc h0.tys w)) λe a d f=>match e with
    |.normal=>z8i b h d f
    |_=>none) λt=>vq y (2*p+1) h.nx (unE h (Jc h.tys t)) (unG h (Jc h.tys t)) k
  |_=>vq x (2*p) g E G λe a d f=>match e with
   |.normal=>vq y (2*p+1) a d f k
   |e=>k e a d f
 |.cond c x y,p,g,_,E,G,k=>match evE E c with
  |.c (.bool true)=>vq x (2*p) g E G k
  |.c (.bool false)=>vq y (2*p+1) g E G k
  |.v ⟨.bool,c⟩=>ifB c (vq x (2*p) g E G k) (vq y (2*p+1) g E G k)
  |_=>none
 |.block id c,p,g,_,E,G,k=>match hint p with
  |some (.meet h)=>J (λt=>k .normal h.nx (unE h (Jc h.tys t)) (unG h (Jc h.tys t))) λj=>vq c (2*p) g E G λe a d f=>match e with
   |.exit q=>if q=id then meet b h j d f else k (.exit q) a d f
   |.normal=>meet b h j d f
   |e=>k e a d f
  |_=>vq c (2*p) g E G λe a d f=>match e with
   |.exit q=>if q=id then k .normal a d f else k (.exit q) a d f
   |e=>k e a d f
 |.loop c,p,g,_,E,G,k=>match hint p with
  |none=>none
  |some (.cut _ _)=>none
  |some (.unroll m)=>jev (λp g E G k=>vq c p g E G k) k m p g E G
  |some (.meet h)=>meet b h (λt=>jm (λt next=>vq c (2*p) h.nx (unE h (Jc h.tys t)) (unG h (Jc h.tys t)) λe a d f=>match e with
   |.normal=>meet b h next d f
   |e=>k e a d f) fuel t) E G
  |some (.mr h)=>match c with
   |.seq (.region id i false) y=>match i.toList with
    |[]=>none
    |o::l=>match jjj n o with
     |none=>none
     |some x=>meet b h (mrC (λt=>jbt x (unE h (Jc h.tys t)) (unG h (Jc h.tys t)))
      (λj t=>match jbt x (unE h (Jc h.tys t)) (unG h (Jc h.tys t))with
       |none=>none
       |some m=>ja (zsb m.es j) λe=>zby sy ctx n i id h.nx l 1 ((unE h (Jc h.tys t)).put o.dst (mrV m j e)) (mrG m (unG h (Jc h.tys t)) j) [] λd f _=>vq y (2*(2*p)+1) (h.nx+NB*(l.length+1)) d f λe _ s u=>match e with
        |.normal=>z8i b h s u
        |_=>none)
      λt=>zby sy ctx n i id h.nx l 1 ((unE h (Jc h.tys t)).put o.dst (.tup [.c (.bool false)])) (unG h (Jc h.tys t)) [] λd f _=>vq y (2*(2*p)+1) (h.nx+NB*(l.length+1)) d f λe a s u=>match e with
       |.normal=>none
       |e=>k e a s u) E G
   |_=>none
 |.region id i r,p,g,_,E,G,k=>match hint p with
  |some (.meet h)=>J (λt=>k .normal h.nx (unE h (Jc h.tys t)) (unG h (Jc h.tys t))) λj=>jkc sy ctx n id i r g E G λd f=>meet b h j d f
  |_=>jkc sy ctx n id i r g E G λd f=>k .normal (g+NB*i.toList.length) d f
 |.scope c,p,g,_,E,G,k=>vq c (2*p) g E G λe a d f=>match e with
  |.goto _=>none
  |e=>k e a d f
 |.label _,_,g,_,E,G,k=>k .normal g E G
 |_,_,_,_,_,_,_=>none
end
def OutC(P:Program)(b n:Nat)(c:Code)(E:EF)(G:EG)(e:Exit)(a:EF)(G':EG):Prop:=
 ∀(W:Env)(R:PHeap),GhOk b W->RestOk b R->PC P W n c (Ju E) (qp G R) λg d f=>g=e/\d=Ju a/\f=qp G' R
def Ren(P:Program)(b n:Nat)(E:EF)(G:EG)(c:EF)(G':EG):Prop:=
 ∀(W:Env)(R:PHeap),GhOk b W->RestOk b R->∀V a w,Rel P W n (Ju E) (qp G R) V a w->∃d,Rel P W n (Ju c) (qp G' R) d a w
def Ren.refl{P:Waq}{b n:Nat}{E:EF}{G:EG}:Ren P b n E G E G:=λW R _ _ V a w h=>⟨V,h⟩
inductive LP(P:Program)(b n:Nat)(c:Code)(e:Exit)(E':EF)(G':EG):Nat->EF->EG->Prop
 |last {E:EF}{G:EG}(he:e ≠ .normal) (h:OutC P b n c E G e E' G'):LP P b n c e E' G' 0 E G
 |round {m:Nat}{E E1 E2:EF}{G G1 G2:EG}(h:OutC P b n c E G .normal E1 G1) (hr:Ren P b n E1 G1 E2 G2) (hs:LP P b n c e E' G' m E2 G2):LP P b n c e E' G' (m+1) E G
section
variable{P:Program}{W:Env}{n b ctx:Nat}{R:PHeap}{sy:SyT}{fuel:Nat}{hint:Nat → Option HK}{β:Type}
def wce{c:Code}{F:Wav}{H:Wau}{Q f:Exit->Wav->Wau->Prop}(h:PC P W n c F H Q)(p:∀e F H,Q e F H->∀V a w,Rel P W n F H V a w->∃b d g,f e b d/\Rel P W n b d g a w):PC P W n c F H f:=λV a w i j m=>h V a w i j λe b d g l q o k=>by grind
def Yz{h:LH}{j:DL h.tys->Wal β}{E:EF}{G:EG}{r:β}(hm:meet b h j E G=some r):∃t,z8i b h E G=some t/\j t=some r/\∀{γ:Type}(a:DL h.tys->Wal γ),meet b h a E G=a t:=by unfold meet at hm;cases c:z8i b h E G with|none=>{grind}|some t=>rw[c]at hm;exact⟨t,rfl,hm,λa=>by unfold meet;grind⟩
def Z0{h:LH}{E:EF}{G:EG}{t:DL h.tys}(c:z8i b h E G=some t):Ren P b n E G (unE h (Jc h.tys t)) (unG h (Jc h.tys t)):=λW R e d V a w g=>by unfold z8i at c;split at c;{rename_i r f;rw[jhf c];exact jqw f e d g};grind
def OutC.ren{c:Code}{E f g:EF}{G G1 i:EG}{e:Exit}(h:OutC P b n c E G e f G1)(o:Ren P b n f G1 g i):OutC P b n c E G e g i:=λW R k j=>
 wce (h W R k j) λs p q⟨t,l,m⟩ V a w d=>by
  subst l;subst m;obtain⟨r,u⟩:=o W R k j V a w d
  grind
def OutC.into{c:Code}{E f g:EF}{G i G1:EG}{e:Exit}(q:Ren P b n f i E G)(h:OutC P b n c E G e g G1):OutC P b n c f i e g G1:=λW R k j V a w l d p=>by obtain⟨m,o⟩:=q W R k j V a w d;exact h W R k j m a w l o p
def OutC.seq{x y:Code}{E a c:EF}{G G1 d:EG}{e:Exit}(k:OutC P b n x E G .normal a G1)(l:OutC P b n y a G1 e c d):OutC P b n (.seq x y) E G e c d:=λW R g f=>
 PC.seq λK m=>PC.mono (k W R g f) λo F H⟨h,i,j⟩=>by
  subst h;subst i;subst j;exact m _ _ (l W R g f)
def OutC.seqX{x y:Code}{E a:EF}{G G1:EG}{e:Exit}(f:OutC P b n x E G e a G1)(j:e ≠ .normal):OutC P b n (.seq x y) E G e a G1:=λW R h g=>
 PC.seq λK i=>PC.mono (f W R h g) λd F H⟨rfl,c,rfl⟩=>by
  subst c;cases d with
  |normal=>grind
  |_=>exact⟨rfl,rfl,rfl⟩
def OutC.block{id:Nat}{c:Code}{E d:EF}{G G1:EG}{e:Exit}(h:OutC P b n c E G e d G1):OutC P b n (.block id c) E G (match e with
  |.exit a=>if a=id then .normal else .exit a
  |e=>e) d G1:=λW R k j=>PC.block (PC.mono (h W R k j) λi F H⟨f,g,rfl⟩=>by
 subst f;subst g;cases i with
 |exit a=>
  simp only[z01];simp
 |_=>exact⟨rfl,rfl,rfl⟩)
def OutC.loop{c:Code}{E a:EF}{G G':EG}{e:Exit}{m:Nat}(h:LP P b n c e a G' m E G):OutC P b n (.loop c) E G e a G':=λW R k j=>by refine PC.loop (λm F H=>∃E G,F=Ju E/\H=qp G R/\LP P b n c e a G' m E G) ⟨E,G,rfl,rfl,h⟩ λm F H⟨E,G,p,q,r⟩=>?_;subst p;subst q;cases r with|last u h=>{refine PC.mono (h W R k j) λi l o⟨d,f,g⟩=>?_;subst d;subst f;subst g;cases i with|normal=>{grind}|_=>exact⟨rfl,rfl,rfl⟩}|round h s t=>refine PC.mono (h.ren s W R k j) λi l o⟨d,f,g⟩=>?_;subst d;subst f;subst g;exact⟨_,we0 _,_,_,rfl,rfl,t⟩
def OutC.cond{q:War}{x y:Code}{E a:EF}{G G1:EG}{e:Exit}{t:Bool}(f:evP (Ju E) q=.u (.bool t)) (h:OutC P b n (match t with
  |true=>x
  |false=>y) E G e a G1):OutC P b n (.cond q x y) E G e a G1:=λW R d c=>
 PC.cond f (λe=>by subst e;exact h W R d c) (λe=>by subst e;exact h W R d c)
def OutC.scope{c:Code}{E a:EF}{G G1:EG}{e:Exit}(h:OutC P b n c E G e a G1)(j:∀l,e ≠ .goto l):OutC P b n (.scope c) E G e a G1:=λW R i g=>
 PC.scope (PC.mono (h W R i g) λf F H⟨rfl,d,rfl⟩=>by
  subst d;cases f<;>first|exact⟨rfl,rfl,rfl⟩|grind)
def GhOk.fl(h:GhOk b W):∀i,Fl (W.G i):=λi=>(h i).fl
def RestOk.fl(h:RestOk b R):RFl R:=λi a d c e=>(h i a d c e).fl
def jh4(f:zwp P sy)(hm:P.follows .mixedOrders=true){id:Nat}{ops:Array Oper}{a:Bool}{nx:Nat}{E:EF}{G:EG}{k:EF->EG->Wal β}{r:β}(h:jkc sy ctx n id ops a nx E G k=some r):
  ∃c d,k c d=some r/\(∀{γ:Type}(g:EF->EG->Wal γ),jkc sy ctx n id ops a nx E G g=g c d)/\OutC P b n (.region id ops a) E G .normal c d:=by
 cases a with
 |false=>
  obtain⟨cs,p,c,d,o,e,q⟩:=zgm f _ _ _ _ _ h;refine⟨c,d,e,λg=>by simp[jkc];grind,λW R m i=>?_⟩;obtain⟨l⟩:=ops;exact PC.region (Steps.seq (GhOk.fl m) (RestOk.fl i) o ⟨rfl,rfl,rfl⟩)
 |true=>
  obtain⟨cs,p,c,d,o,e,q⟩:=zgm f _ _ _ _ _ h;split at e<;>try (cases e;done)
  rename_i j;exact⟨c,d,e,λg=>by simp[jkc];grind,λW R m i=>Steps.drawn (GhOk.fl m) (RestOk.fl i) hm o j⟩
def Ends(P:Program)(sy:SyT)(fuel:Nat)(hint:Nat->Option HK)(ctx b n:Nat){β:Type}(c:Code)(p nx:Nat)(E:EF)(G:EG)(k:EK β)(r:β):Prop:=
 ∃e a d f,k e a d f=some r/\(∀{γ:Type}(g:EK γ),vq sy fuel hint ctx b n c p nx E G g=g e a d f)/\OutC P b n c E G e d f
def ze(hm:P.follows .mixedOrders=true)(w:zwp P sy):∀(c:Code)(p nx:Nat){β:Type}(E:EF)(G:EG)(k:EK β)(r:β),vq sy fuel hint ctx b n c p nx E G k=some r->Ends P sy fuel hint ctx b n c p nx E G k r
 |.skip,p,nx,β,E,G,k,r,h=>⟨.normal,nx,E,G,by assumption,λf=>Wab,λW R _ _=>PC.skip ⟨rfl,rfl,rfl⟩⟩
 |.ret,p,nx,β,E,G,k,r,h=>⟨.ret,nx,E,G,by assumption,λf=>Wab,λW R _ _=>PC.ret ⟨rfl,rfl,rfl⟩⟩
 |.exit id,p,nx,β,E,G,k,r,h=>⟨.exit id,nx,E,G,by assumption,λf=>Wab,λW R _ _=>PC.exit ⟨rfl,rfl,rfl⟩⟩
 |.label l,p,nx,β,E,G,k,r,h=>⟨.normal,nx,E,G,by assumption,λf=>Wab,λW R _ _=>PC.label ⟨rfl,rfl,rfl⟩⟩
 |.scope c,p,nx,β,E,G,k,r,h=>by simp only[vq]at h;obtain⟨e,d,s,v,g,A,C⟩:=ze hm w c (2*p) nx E G _ r h;have he:∀l,e ≠ .goto l:=λl e1=>by{subst e1;cases g};refine⟨e,d,s,v,?_,λf=>?_,C.scope he⟩;{cases e<;>first|exact g|exact absurd rfl (he _)};.simp only[vq];rw[A];cases e<;>first|rfl|exact absurd rfl (he _)
 |.seq x y,p,nx,β,E,G,k,r,h=>by simp only[vq]at h;split at h;{rename_i z D;unfold J at h;obtain⟨e,d,s,v,g,A,C⟩:=ze hm w x (2*p) nx E G _ r h;cases e with|normal=>{obtain⟨t,g1,g2,g3⟩:=Yz g;obtain⟨e2,O,E2,G2,M,N,b4⟩:=ze hm w y _ _ _ _ k r g2;exact⟨e2,O,E2,G2,M,λf=>by simp only[vq,D,J];rw[A];simp only;rw[g3];exact N f,(C.ren (Z0 g1)).seq b4⟩}|_=>exact⟨_,d,s,v,g,λf=>by simp only[vq,D,J];rw[A],C.seqX (λe=>by cases e)⟩};{rename_i h0 z D;(split at h<;>try (cases h;done));rename_i t0 d5;obtain⟨t,ht,g⟩:=qw h;obtain⟨e,d,s,v,h1,A,C⟩:=ze hm w x (2*p) _ _ _ _ t ht;cases e with|normal=>{obtain⟨e2,O,E2,G2,M,N,b4⟩:=ze hm w y _ _ _ _ k r g;refine⟨e2,O,E2,G2,M,λf=>?_,(OutC.into (Z0 d5) (C.ren (Z0 h1))).seq b4⟩;simp only[vq,D,d5];rw[ht];exact N f}|_=>cases h1};.rename_i D d6;obtain⟨e,d,s,v,g,A,C⟩:=ze hm w x (2*p) nx E G _ r h;cases e with|normal=>{obtain⟨e2,O,E2,G2,M,N,b4⟩:=ze hm w y _ d s v k r g;refine⟨e2,O,E2,G2,M,λf=>?_,C.seq b4⟩;rw[vq];split;{rename_i z I;exact absurd I (D z)};{rename_i h0 z I;exact absurd I (d6 h0 z)};.rw[A];exact N f}|_=>refine⟨_,d,s,v,g,λf=>?_,C.seqX (λe=>by cases e)⟩;rw[vq];split;{rename_i z I;exact absurd I (D z)};{rename_i h0 z I;exact absurd I (d6 h0 z)};.rw[A]
 |.cond c x y,p,nx,β,E,G,k,r,h=>by simp only[vq]at h;split at h;{rename_i T;obtain⟨e,d,s,v,g,A,C⟩:=ze hm w x (2*p) nx E G k r h;exact⟨e,d,s,v,g,λf=>by simp only[vq,T];exact A f,OutC.cond (t:=true) (by rw[zxe,T];simp only[TS.den];rfl) C⟩};{rename_i T;obtain⟨e,d,s,v,g,A,C⟩:=ze hm w y (2*p+1) nx E G k r h;exact⟨e,d,s,v,g,λf=>by simp only[vq,T];exact A f,OutC.cond (t:=false) (by rw[zxe,T];simp only[TS.den];rfl) C⟩};{rename_i q T;have e1:evP (Ju E) c=.u (.bool q):=by{rw[zxe,T];simp only[TS.den];rfl};unfold ifB at h;split at h;{obtain⟨e,d,s,v,g,A,C⟩:=ze hm w x (2*p) nx E G k r h;exact⟨e,d,s,v,g,λf=>by simp only[vq,T,ifB];exact A f,OutC.cond e1 C⟩};.obtain⟨e,d,s,v,g,A,C⟩:=ze hm w y (2*p+1) nx E G k r h;exact⟨e,d,s,v,g,λf=>by simp only[vq,T,ifB];exact A f,OutC.cond e1 C⟩};.cases h
 |.block id c,p,nx,β,E,G,k,r,h=>by
  simp only[vq]at h;split at h;{rename_i z D;unfold J at h;obtain⟨e,d,s,v,g,A,C⟩:=ze hm w c (2*p) nx E G _ r h;cases e with|exit a0=>{simp only at g A;by_cases e:a0=id;{rw[if_pos e]at g;obtain⟨t,g1,g2,g3⟩:=Yz g;refine⟨_,_,_,_,g2,λf=>by simp only[vq,D,J];rw[A];simp only;rw[if_pos e];exact g3 _,?_⟩;have:=(C.ren (Z0 g1)).block (id:=id);simp only[if_pos e]at this;exact this};.rw[if_neg e]at g;refine⟨_,_,_,_,g,λf=>by simp only[vq,D,J];rw[A];simp only;rw[if_neg e],?_⟩;have:=C.block (id:=id);simp only[if_neg e]at this;exact this}|normal=>{obtain⟨t,g1,g2,g3⟩:=Yz g;exact⟨_,_,_,_,g2,λf=>by simp only[vq,D,J];rw[A];exact g3 _,(C.ren (Z0 g1)).block⟩}|_=>exact⟨_,_,_,_,g,λf=>by simp only[vq,D,J];rw[A],C.block⟩}
  .rename_i D;obtain⟨e,d,s,v,g,A,C⟩:=ze hm w c (2*p) nx E G _ r h;have un:∀{γ:Type}(f:EK γ),vq sy fuel hint ctx b n (.block id c) p nx E G f=match e with
    |.exit a0=>if a0=id then f .normal d s v else f (.exit a0) d s v
    |e=>f e d s v:=λ{γ}f=>by
    rw[vq];split
    ·rename_i z I;exact absurd I (D z)
    ·rw[A];cases e<;>rfl
   cases e with|exit a0=>{simp only at g un;by_cases e:a0=id;{rw[if_pos e]at g;refine⟨_,_,_,_,g,λf=>by rw[un,if_pos e],?_⟩;have:=C.block (id:=id);simp only[if_pos e]at this;exact this};.rw[if_neg e]at g;refine⟨_,_,_,_,g,λf=>by rw[un,if_neg e],?_⟩;have:=C.block (id:=id);simp only[if_neg e]at this;exact this}|_=>exact⟨_,_,_,_,g,λf=>un f,C.block⟩
 |.loop c,p,nx,β,E,G,k,r,h=>by
  simp only[vq]at h;split at h;{cases h};{cases h};{rename_i m D;have c4:∀(m p nx:Nat)(E:EF)(G:EG),jev (λp nx E G k=>vq sy fuel hint ctx b n c p nx E G k) k m p nx E G=some r->∃e d s v j,k e d s v=some r/\(∀{γ:Type}(f:EK γ),jev (λp nx E G k=>vq sy fuel hint ctx b n c p nx E G k) f m p nx E G=f e d s v)/\LP P b n c e s v j E G:=by{intro m;induction m with|zero=>{intro p nx E G h;cases h}|succ m ih=>intro p nx E G h;simp only[jev]at h;obtain⟨e,d,s,v,g,A,C⟩:=ze hm w c (2*p) nx E G _ r h;cases e with|normal=>{obtain⟨e2,O,E2,G2,j,M,N,hl⟩:=ih (2*p+1) d s v g;exact⟨e2,O,E2,G2,j+1,M,λf=>by simp only[jev];rw[A];exact N f,.round C Ren.refl hl⟩}|_=>exact⟨_,d,s,v,0,g,λf=>by simp only[jev];rw[A],.last (λe=>by cases e) C⟩};obtain⟨e,d,s,v,j,g,A,hl⟩:=c4 m p nx E G h;exact⟨e,d,s,v,g,λf=>by simp only[vq,D];exact A f,OutC.loop hl⟩}
  .rename_i z D;obtain⟨t,g1,g2,g3⟩:=Yz h;have c4:∀(m:Nat)(t:DL z.tys),jm (λt next=>vq sy fuel hint ctx b n c (2*p) z.nx (unE z (Jc z.tys t)) (unG z (Jc z.tys t)) λe d s v=>match e with
     |.normal=>meet b z next s v
     |e=>k e d s v) m t=some r->∃e d s v j,k e d s v=some r/\(∀{γ:Type}(f:EK γ),jm (λt next=>vq sy fuel hint ctx b n c (2*p) z.nx (unE z (Jc z.tys t)) (unG z (Jc z.tys t)) λe d s v=>match e with
     |.normal=>meet b z next s v
     |e=>f e d s v) m t=f e d s v)/\LP P b n c e s v j (unE z (Jc z.tys t)) (unG z (Jc z.tys t)):=by
    intro m;induction m with
    |zero=>intro t h;cases h
    |succ m ih=>
     intro t h;simp only[jm]at h;obtain⟨e,d,s,v,g,A,C⟩:=ze hm w c (2*p) _ _ _ _ r h;cases e with
     |normal=>
      obtain⟨t',k1,f,k3⟩:=Yz g;obtain⟨e2,O,E2,G2,j,M,N,hl⟩:=ih t' f;exact⟨e2,O,E2,G2,j+1,M,λf=>by simp only[jm];rw[A];simp only;rw[k3];exact N f,.round C (Z0 k1) hl⟩
     |_=>exact⟨_,d,s,v,0,g,λf=>by simp only[jm];rw[A],.last (λe=>by cases e) C⟩
   obtain⟨e,d,s,v,j,g,A,hl⟩:=c4 fuel t g2;exact⟨e,d,s,v,g,λf=>by simp only[vq,D];rw[g3];exact A f,(OutC.loop hl).into (Z0 g1)⟩
  .rename_i z D;(split at h<;>try (cases h;done));rename_i id c5 y;(split at h<;>try (cases h;done));rename_i o l Y;(split at h<;>try (cases h;done));rename_i x hx;obtain⟨t0,g1,g2,g3⟩:=Yz h;obtain⟨B,hB,T,m,Z,c1,b6⟩:=jqf g2;rw[zte]at b6;obtain⟨tn,Q,d0⟩:=qw b6;simp only[zvq,wco,wdu,wd6]at c1;have d4:zvq m=true:=by{simp only[zvq,wco,wdu,wd6];exact c1};obtain⟨b3,f9,f3⟩:=c1;have b3:=wcn b3;have hd:∀(i j:Nat)a b,i≠j->m.es[i]?=some a->m.es[j]?=some b->a.1≠b.1:=λi j a b g0 ha hb=>jbf (zq5 _) f3 i j a.1 b.1 g0 (by rw[wcv,ha];rfl) (by rw[wcv,hb];rfl);obtain⟨cs,k4,E1,G1,g6,d7,g7⟩:=zgm w _ _ _ _ _ d0;obtain⟨e,d,E2,G2,g,A,C⟩:=ze hm w y _ _ E1 G1 _ r d7;have he:e ≠ .normal:=λe1=>by{subst e1;cases g};(have f8:k e d E2 G2=some r:=by cases e<;>first|exact g|exact absurd rfl he);refine⟨e,d,E2,G2,f8,λf=>?_,OutC.into (Z0 g1) λW R hg hR=>?_⟩;{rw[vq];split;{rename_i S;rw[D]at S;cases S};{rename_i S;rw[D]at S;cases S};{rename_i S;rw[D]at S;cases S};{rename_i S;rw[D]at S;cases S};.rename_i j8 S;rw[D]at S;cases S;simp only[Y,hx];rw[g3,<- hB,mrC_at T Z d4,zte,Q];show zby sy ctx n c5 id z.nx l 1 _ _ [] _=_;rw[g7,A];cases e<;>first|rfl|exact absurd rfl he};refine PC.loop (λq F H=>∃(L:Wam Nat)(t:DL z.tys),L.Nodup/\(∀j∈L,j<m.es.length)/\q=m.es.length-L.length/\zdb B L t0=some t/\F=Ju (unE z (Jc z.tys t))/\H=qp (unG z (Jc z.tys t)) R) (m:=m.es.length)
    ⟨[],t0,List.nodup_nil,(λj hj=>by cases hj),V,rfl,rfl,rfl⟩ λq F H⟨L,t,hn,hL,hq,hf,hF,hH⟩=>?_
   subst hF;subst hH;have hs:=z3o T L t0 t m hf Z;refine PC.seq λK hK=>?_;obtain⟨ol⟩:=c5;replace Y:ol=o::l:=Y;subst Y;refine PC.region (jtj hx hs (by rw[z4b];exact b3) (λb1=>?_) λj ee d1 d3=>?_)
   .have b1:∀j,j∈L↔j<m.es.length:=λj=>⟨hL j,λhj=>by
     have h1:=b1 j hj;rw[show({ m with mask:=zn0 L m.mask }:MS).mask=zn0 L m.mask from rfl,ztb _ _ _ (by rw[b3];exact hj)]at h1;by_cases b2:j∈L;{exact b2};.rw[if_neg b2]at h1;have:=f9 true (wcq h1);cases this⟩
    have:=jlm T hd hn b1 Z Q hf;subst this;refine Steps.seq (GhOk.fl hg) (RestOk.fl hR) g6 (hK _ _ (PC.mono (C W R hg hR) λe2 F' H'⟨a1,a2,a3⟩=>?_));subst a1;subst a2;subst a3;cases e2<;>first|exact⟨rfl,rfl,rfl⟩|exact absurd rfl he
   .have b2:j<m.es.length:=(wcl.1 d1).1;have f7:j∉L:=λhj=>by{rw[show({ m with mask:=zn0 L m.mask }:MS).mask=zn0 L m.mask from rfl,ztb _ _ _ (by rw[b3];exact b2),if_pos hj]at d3;cases d3};have c0:(L++[j]).Nodup:=by{rw[List.nodup_append];exact⟨hn,V,λa ha b hb e=>by simp at hb;subst hb;subst e;exact f7 ha⟩};have b7:∀i∈L++[j],i<m.es.length:=λi hi=>by{rcases wcu.1 hi with h|h;{exact hL i h};.simp at h;subst h;exact b2};obtain⟨t2,c9⟩:=jb1 T hd c0 b7 Z Q;have b5:=c9;rw[zjv,hf]at b5;replace b5:ja (B j t) (zdb B [])=some t2:=b5
    obtain⟨t3,b0,c3⟩:=qw b5;replace c3:some t3=some t2:=c3;cases c3;rw[hB]at b0;simp only[hs]at b0;obtain⟨e3,f4,b0⟩:=qw b0;cases d1.symm.trans f4;obtain⟨j1,i2,E3,G3,d8,c2,_⟩:=zgm w _ _ _ _ _ b0;obtain⟨e4,j9,E4,G4,d2,_,g4⟩:=ze hm w y _ _ E3 G3 _ t2 c2;cases e4 with|normal=>{have g5:z8i b z E4 G4=some t2:=d2;refine Steps.seq (GhOk.fl hg) (RestOk.fl hR) d8 (hK _ _ (PC.mono ((g4.ren (Z0 g5)) W R hg hR) λe2 F' H'⟨a1,a2,a3⟩=>?_));subst a1;subst a2;subst a3;have h6:L.length<m.es.length:=by{have:=List.Nodup.length_le_of_subset c0 (l₂:=range m.es.length) λi hi=>weq.2 (b7 i hi);simp at this;omega};exact⟨m.es.length-(L++[j]).length,by rw[hq];simp;omega,L++[j],t2,c0,b7,rfl,c9,rfl,rfl⟩}|_=>cases d2
 |.region id c5 g9,p,nx,β,E,G,k,r,h=>by simp only[vq]at h;split at h;{rename_i z D;unfold J at h;obtain⟨s,v,g,A,C⟩:=jh4 (b:=b) w hm h;obtain⟨t,g1,g2,g3⟩:=Yz g;exact⟨_,_,_,_,g2,λf=>by simp only[vq,D,J];rw[A];exact g3 _,C.ren (Z0 g1)⟩};.rename_i D;obtain⟨s,v,g,A,C⟩:=jh4 (b:=b) w hm h;refine⟨_,_,_,_,g,λf=>?_,C⟩;rw[vq];split;{rename_i z I;exact absurd I (D z)};.exact A _
 |.rangeFunc _ _ _ _,p,nx,β,E,G,k,r,h=>by simp only[vq]at h;cases h
 |.goto _,p,nx,β,E,G,k,r,h=>by simp only[vq]at h;cases h
 |.refuse _,p,nx,β,E,G,k,r,h=>by simp only[vq]at h;cases h
end
def SR.now(s:TS)(rd:List Nat):SR:=⟨Unit,true,some (),λ_=>s,λ_=>[],rd,[],[]⟩
def SR.dat(α:Type)(o:Option α)(s:α->TS)(rd:List Nat):SR:=⟨α,false,o,s,λ_=>[],rd,[],[]⟩
def SR.vx(b:Bool)(t:Ty)(x:t.D):SR:=match b with
 |true => .dat t.D (some x) (λy=> .v ⟨t,y⟩) []
 |false => .now (.v ⟨t,x⟩) []
def SR.vo(t:Ty)(o:Option t.D):SR :=.dat t.D o (λy=> .v ⟨t,y⟩) []
structure Agr(o:Oper)(E:EF)(G:EG)(rd:List Nat)(F:PFrame)(H:PHeap):Prop where
 f:∀t,Operand.tmp t∈o.op.operands->F t=(E t).den
 hn:∀id,id∈rd->AgN H G id
def Agr.h{o:Oper}{E:EF}{G:EG}{rd:Wam Nat}{F:Wav}{H:Wau}(h:Agr o E G rd F H):∀id,id∈rd->H (.o id)=vz id (G id):=λid a=>(h.hn id a).1
section
variable{P:Program}{o:Oper}{E:EF}{G:EG}{rd:List Nat}{F:PFrame}{H:PHeap}{W:Env}
def Agr.ev(h:Agr o E G rd F H){x:War}(a:x∈o.op.operands):evP F x=(evE E x).den:=by cases x with|tmp t=>{simp[evP,evE];exact h.f t a}|const v=>{rfl}|global g=>{rfl}|func f=>rfl
def SOk.now{s:TS}(h:∀W F H,Agr o E G rd F H->PQ P W o F H s.den):SOk P o E G (.now s rd):=
 ⟨λ_=>rfl,λx f W n F H e d b c=>waw d (h W F H ⟨b,λid a=>c id (.inl a)⟩) ⟨rfl,rfl⟩⟩
def SOk.dat{α:Type}{op:Wal α}{s:α->TS}(h:∀x,op=some x->∀W F H,Agr o E G rd F H->PQ P W o F H (s x).den):SOk P o E G (.dat α op s rd):=
 ⟨λ_=>rfl,λx f W n F H e d b c=>waw d (h x f W F H ⟨b,λid a=>c id (.inl a)⟩) ⟨rfl,rfl⟩⟩
def SOk.vx{b:Bool}{t:Ty}{x:t.D}(h:∀W F H,Agr o E G [] F H->PQ P W o F H (enc t x)):SOk P o E G (.vx b t x):=by cases b with|true=>{exact SOk.dat λy c W F H a=>by cases c;simp[TS.den];exact h W F H a}|false=>exact SOk.now λW F H a=>by simp[TS.den];exact h W F H a
def SOk.vo{t:Ty}{op:Wal t.D}(h:∀x,op=some x->∀W F H,Agr o E G [] F H->PQ P W o F H (enc t x)):SOk P o E G (.vo t op):=
 SOk.dat λy b W F H a=>by simp[TS.den];exact h y b W F H a
def PQ.ref{p q:PV}(h:PQ P W o F H p)(f:Ref p q):PQ P W o F H q:=λV a w e g=>
 Oper.wp_mono (λi j⟨v,b,c,d⟩=>⟨v,b,f _ _ _ _ _ c,d⟩) (h V a w e g)
def ofCx:(t:Ty)->Value->Option t.D
 |.int k,.int a z=>match ikB k a with
  |true=>some z
  |false=>none
 |.bool,.bool b=>some b
 |.str,.string s=>some s.data.toList
 |_,_=>none
def jvz{t:Ty}{v:Wan}{x:t.D}(h:ofCx t v=some x):ofV v=enc t x:=by unfold ofCx at h;split at h;{split at h<;>cases h;rename_i e;rw[z7j e];rfl};{cases h;rfl};{cases h;rfl};grind
def Ys(t:Ty):TS->Option t.D
 |.v d=>d.as t
 |.c v=>ofCx t v
 |_=>none
def zx{t:Ty}{s:TS}{x:t.D}(h:Ys t s=some x):s.den=enc t x:=by unfold Ys at h;split at h;{have:=wag h;subst this;rfl};{simp[TS.den];exact jvz h};grind
def zgy:TS->Option Int
 |.v ⟨.int _,z⟩=>some z
 |.c (.int _ z)=>some z
 |_=>none
def Zp{s:TS}{z:Int}(h:zgy s=some z):∃k,s.den=.u (.int k z):=by unfold zgy at h;split at h;{cases h;exact⟨_,Wab⟩};{cases h;exact⟨_,Wab⟩};grind
def yl{α:Type}(o:Option α)(f:α->Option SR):Option SR:=match o with
 |some a=>f a
 |none=>none
def jz{α:Type}{o:Wal α}{f:α->Wal SR}{q:SR}(h:yl o f=some q):∃a,o=some a/\f a=some q:=by cases o with|none=>{cases h}|some a=>exact⟨a,rfl,h⟩
def intX(k:IntKind)(op:BinOp)(a b:Int):Option Int:=match op with
 |.add=>some (k.wrap (a+b))
 |.sub=>some (k.wrap (a-b))
 |.mul=>some (k.wrap (a*b))
 |.and=>some (andI k a b)
 |.or=>some (orI k a b)
 |.xor=>some (xorI k a b)
 |.andNot=>some (z7e k a b)
 |_=>none
def cmpX(op:BinOp)(a b:Int):Option Bool:=match op with
 |.eql=>some (decide (a=b))
 |.neq=>some (decide (¬a=b))
 |.lss=>some (decide (a<b))
 |.leq=>some (decide (a<=b))
 |.gtr=>some (decide (b<a))
 |.geq=>some (decide (b<=a))
 |_=>none
def jti(k:IntKind)(op:BinOp)(a b:Int):Option (Option Int):=match op with
 |.quo=>some (zwd k a b)
 |.rem=>some (z2y k a b)
 |.shl=>some (jca k a b)
 |.shr=>some (zvl k a b)
 |_=>none
def jwk{k:Was}{op:BinOp}{a b r:Int}(h:intX k op a b=some r)(t:Nat)(x y:War):J5 P op t x y (.u (.int k a)) (.u (.int k b))=some (.u (.int k r)):=by unfold intX at h;split at h<;>cases h;{exact jlc};{exact jjp};{exact jj4};{exact b_and _ _};{exact b_or _ _};{exact b_xor _ _};.exact jsa _ _
def jt1{k:Was}{op:BinOp}{a b:Int}{r:Bool}(h:cmpX op a b=some r)(t:Nat)(x y:War):J5 P op t x y (.u (.int k a)) (.u (.int k b))=some (.u (.bool r)):=by unfold cmpX at h;split at h<;>cases h;{exact jp1};{exact jnm};{exact jne};{exact jpe};{exact jn8};.exact jov
def ji5{k e:Was}{op:BinOp}{a b r:Int}{q:Wal Int}(h:jti k op a b=some q)(c:q=some r)(d:op=.shl\/op=.shr\/e=k)(t:Nat)(x y:War):J5 P op t x y (.u (.int k a)) (.u (.int e b))=some (.u (.int k r)):=by unfold jti at h;split at h<;>cases h;{(rcases d with h|h|h<;>first|cases h|skip);exact b_quo c};{(rcases d with h|h|h<;>first|cases h|skip);exact b_rem c};{exact b_shl c};.exact b_shr c
def isSh(op:BinOp):Bool:=match op with
 |.shl=>true
 |.shr=>true
 |_=>false
def foldOp(op:BinOp):Bool:=match op with
 |.and=>false
 |.or=>false
 |.xor=>false
 |.andNot=>false
 |_=>true
def isC(x y:TS)(op:BinOp):Bool:=match x with
 |.c _=>match y with
  |.c _=>foldOp op
  |_=>false
 |_=>false
def vxI(c bd:Bool)(k:IntKind)(r:Int):SR:=match c with
 |true => .now (.c (.int k r)) []
 |false => .vx bd (.int k) r
def vxB(c bd:Bool)(r:Bool):SR:=match c with
 |true => .now (.c (.bool r)) []
 |false => .vx bd .bool r
def SOk.vxI{c bd:Bool}{k:Was}{r:Int}(h:∀W F H,Agr o E G [] F H->PQ P W o F H (.u (.int k r))):SOk P o E G (vxI c bd k r):=by cases c with|true=>{exact SOk.now λW F H a=>by simp[TS.den];exact h W F H a}|false=>exact SOk.vx λW F H a=>h W F H a
def SOk.vxB{c bd:Bool}{r:Bool}(h:∀W F H,Agr o E G [] F H->PQ P W o F H (.u (.bool r))):SOk P o E G (vxB c bd r):=by cases c with|true=>{exact SOk.now λW F H a=>by simp[TS.den];exact h W F H a}|false=>exact SOk.vx λW F H a=>h W F H a
def sInt(bd:Bool)(k:IntKind)(op:BinOp)(x y:TS):Option SR:=match isSh op with
 |true=>yl (Ys (.int k) x) λa=>yl (zgy y) λb=>match jti k op a b with
  |some q=>some (.vo (.int k) q)
  |none=>none
 |false=>yl (Ys (.int k) x) λa=>yl (Ys (.int k) y) λb=>match intX k op a b with
  |some r=>some (vxI (isC x y op) bd k r)
  |none=>match cmpX op a b with
   |some r=>some (vxB (isC x y op) bd r)
   |none=>match jti k op a b with
    |some q=>some (.vo (.int k) q)
    |none=>none
def jtq{bd:Bool}{k:Was}{op:BinOp}{t B:Nat}{x y:War}{q:SR}(i:o.op=.binOp op t x y B)(z:ztt P t y=true)(h:sInt bd k op (evE E x) (evE E y)=some q):SOk P o E G q:=by
 have m:x∈o.op.operands:=Wak i;have n:y∈o.op.operands:=Wak i;have step:∀{W F H}{p s r:PV},(evE E x).den=p->(evE E y).den=s->J5 P op t x y p s=some r->Agr o E G [] F H->PQ P W o F H r:=λ{W F H p s r}u v w d=>by{refine qm ?_;unfold Yp;rw[i];simp only;rw[zo0 z,d.ev m,d.ev n,u,v,w]};unfold sInt at h;split at h;.rename_i l;obtain⟨a,d,h⟩:=jz h;obtain⟨b,f,h⟩:=jz h;(split at h<;>try (cases h;done));rename_i A j;cases h;obtain⟨C,g⟩:=Zp f;refine SOk.vo λr e W F H c=>step (zx d) g (ji5 j e ?_ t x y) c;cases op<;>first|exact .inl rfl|exact .inr (.inl rfl)|(simp[isSh]at l)
 .obtain⟨a,d,h⟩:=jz h;obtain⟨b,f,h⟩:=jz h;split at h;{rename_i r e;cases h;exact SOk.vxI λW F H c=>step (zx d) (zx f) (jwk e t x y) c};.split at h;{rename_i r e;cases h;exact SOk.vxB λW F H c=>step (zx d) (zx f) (jt1 e t x y) c};{(split at h<;>try (cases h;done));rename_i A j;cases h;exact SOk.vo λr e W F H c=>step (zx d) (zx f) (ji5 j e (.inr (.inr rfl)) t x y) c}
def jps(bd:Bool)(op:BinOp)(x y:TS):Option SR:=yl (Ys .bool x) λa=>yl (Ys .bool y) λb=>match op with
 |.eql=>some (.vx bd .bool (a == b))
 |.neq=>some (.vx bd .bool (a != b))
 |_=>none
def jmz{bd:Bool}{op:BinOp}{t l:Nat}{x y:War}{q:SR}(g:P.underlying t=some .bool)(d:o.op=.binOp op t x y l)(k:ztt P t y=true)(h:jps bd op (evE E x) (evE E y)=some q):SOk P o E G q:=by have e:x∈o.op.operands:=Wak d;have f:y∈o.op.operands:=Wak d;unfold jps at h;obtain⟨a,i,h⟩:=jz h;obtain⟨b,j,h⟩:=jz h;have step:∀{W F H}{r:Bool},J5 P op t x y (.u (.bool a)) (.u (.bool b))=some (.u (.bool r))->Agr o E G [] F H->PQ P W o F H (.u (.bool r)):=λ{W F H r}m c=>by{refine qm ?_;unfold Yp;rw[d];simp only;rwa [zo0 k,c.ev e,c.ev f,zx i,zx j]};split at h<;>cases h;{exact SOk.vx λW F H c=>step (b_eqB a b g) c};.exact SOk.vx λW F H c=>step (b_neB a b g) c
def zt5(a b:List UInt8):Option (List UInt8):=match decide (((a.length+b.length:Nat):Int)<=9223372036854775807)with
 |true=>some (a++b)
 |false=>none
def sStr(bd:Bool)(op:BinOp)(x y:TS):Option SR:=yl (Ys .str x) λa=>yl (Ys .str y) λb=>match op with
 |.eql=>some (.vx bd .bool (a == b))
 |.neq=>some (.vx bd .bool (!(a == b)))
 |.lss=>some (.vx bd .bool (Op.bytesLess a b))
 |.add=>some (.vo .str (zt5 a b))
 |_=>none
def zf5(a:Wam UInt8):(ByteArray.mk ⟨a⟩).toList=a:=by simp
def jva{bd:Bool}{op:BinOp}{t p:Nat}{x y:War}{q:SR}(f:o.op=.binOp op t x y p)(n:ztt P t y=true)(h:sStr bd op (evE E x) (evE E y)=some q):SOk P o E G q:=by have i:x∈o.op.operands:=Wak f;have j:y∈o.op.operands:=Wak f;unfold sStr at h;obtain⟨a,l,h⟩:=jz h;obtain⟨b,m,h⟩:=jz h;have step:∀{W F H}{r:PV},J5 P op t x y (.u (.string ⟨⟨a⟩⟩)) (.u (.string ⟨⟨b⟩⟩))=some r->Agr o E G [] F H->PQ P W o F H r:=λ{W F H r}s c=>by{refine qm ?_;unfold Yp;rw[f];simp only;rwa [zo0 n,c.ev i,c.ev j,zx l,zx m]};split at h<;>cases h;{refine SOk.vx λW F H c=>?_;have:=jju (P:=P) (t:=t) (x:=x) (y:=y) (⟨⟨a⟩⟩:ByteArray) ⟨⟨b⟩⟩;rw[zf5,zf5]at this;exact step this c};{refine SOk.vx λW F H c=>?_;have:=jlf (P:=P) (t:=t) (x:=x) (y:=y) (⟨⟨a⟩⟩:ByteArray) ⟨⟨b⟩⟩;rw[zf5,zf5]at this;exact step this c};{refine SOk.vx λW F H c=>?_;have:=b_lssS (P:=P) (t:=t) (x:=x) (y:=y) (⟨⟨a⟩⟩:ByteArray) ⟨⟨b⟩⟩;unfold bltS at this;rw[zf5,zf5]at this;exact step this c};.refine SOk.vo λr g W F H c=>?_;unfold zt5 at g;split at g<;>cases g;rename_i d;have d:=wcj d;have:jsy (⟨⟨a⟩⟩:ByteArray) ⟨⟨b⟩⟩=some (⟨⟨a⟩⟩ ++ ⟨⟨b⟩⟩):=by{unfold jsy;rw[if_pos];trivial};have k:=b_addS (P:=P) (t:=t) (x:=x) (y:=y) this;have e:(⟨⟨a⟩⟩ ++ ⟨⟨b⟩⟩:ByteArray)=⟨⟨a++b⟩⟩:=by{rfl};rw[e]at k;exact step k c
def jcy{x:War}(a:o.op=.move x\/o.op=.assign x):SOk P o E G (.now (evE E x) []):=SOk.now λW F H b=>by refine qm ?_;unfold Yp;rcases a with a|a;{rw[a];simp only;rw[b.ev (by rw[a];simp[Op.operands])]};.rw[a];simp only;rw[b.ev (by rw[a];simp[Op.operands])]
def joh:TS->Option Ty
 |.v d=>some d.t
 |.c (.bool _)=>some .bool
 |.c (.int k _)=>some (.int k)
 |.c (.string _)=>some .str
 |_=>none
def jpq(bd:Bool)(c x y:TS):Option SR:=match c with
 |.c (.bool true)=>some (.now x [])
 |.c (.bool false)=>some (.now y [])
 |.v ⟨.bool,b⟩=>match joh x with
  |none=>none
  |some t=>match joh y with
   |none=>none
   |some a=>match t with
    |.bool=>yl (Ys .bool x) λp=>yl (Ys .bool y) λq=>some (.vx bd .bool (cond b p q))
    |t=>yl (Ys t x) λp=>yl (Ys t y) λq=>some (.vx bd t (cond b p q))
 |_=>none
def jqr{bd:Bool}{c x y:War}{q:SR}(f:o.op=.pick c x y)(h:jpq bd (evE E c) (evE E x) (evE E y)=some q):SOk P o E G q:=by have j:c∈o.op.operands:=Wak f;have k:x∈o.op.operands:=Wak f;have l:y∈o.op.operands:=Wak f;have step:∀{W F H}{b:Bool}{g i:PV},(evE E c).den=.u (.bool b)->(evE E x).den=g->(evE E y).den=i->Agr o E G [] F H->PQ P W o F H (if b then g else i):=λ{W F H b g i}e n r a=>by{refine qm ?_;unfold Yp;rw[f];simp only;rw[a.ev j,a.ev k,a.ev l,e,n,r]};have m:∀{t:Ty}{b:Bool}{q:SR},(evE E c).den=.u (.bool b)->(yl (Ys t (evE E x)) λp=>yl (Ys t (evE E y)) λq=>some (.vx bd t (cond b p q)))=some q->SOk P o E G q:=λ{t b q}e h=>by{obtain⟨g,s,h⟩:=jz h;obtain⟨i,v,h⟩:=jz h;cases h;refine SOk.vx λW F H a=>?_;have:=step (W:=W) e (zx s) (zx v) a;grind};unfold jpq at h;split at h;{rename_i d;cases h;exact SOk.now λW F H a=>by have:=step (W:=W) (by rw[d];rfl) rfl rfl a;grind};{rename_i d;cases h;exact SOk.now λW F H a=>by have:=step (W:=W) (by rw[d];rfl) rfl rfl a;grind};{rename_i b d;have e:(evE E c).den=.u (.bool b):=by{rw[d];rfl};(split at h<;>try (cases h;done));(split at h<;>try (cases h;done));split at h;{grind};grind};grind
def isCT:TS->Bool
 |.c _=>true
 |_=>false
def sNot(bd:Bool)(x:TS):Option SR:=yl (Ys .bool x) λb=>match isCT x with
 |true=>some (.now (.c (.bool (!b))) [])
 |false=>some (.vx bd .bool (!b))
def jsx{bd:Bool}{t:Wap}{x:War}{q:SR}(e:o.op=.unOp .not t x)(h:sNot bd (evE E x)=some q):SOk P o E G q:=by
 have d:x∈o.op.operands:=Wak e;obtain⟨b,f,h⟩:=jz h;have c:∀W F H,Agr o E G [] F H->PQ P W o F H (enc .bool (!b)):=λW F H a=>qm (by
  unfold Yp;rw[e];simp only;rw[a.ev d,zx f];rfl)
 split at h<;>cases h;{exact SOk.now λW F H a=>by simp[TS.den];exact c W F H a};.exact SOk.vx c
def jxf(bd:Bool)(k:IntKind)(x:TS):Option SR:=yl (zgy x) λz=>some (.vx bd (.int k) (k.wrap z))
def jmt{bd:Bool}{t e:Wap}{x:War}{k:Was}{q:SR}(d:o.op=.convert t e x)(f:(zpp P t).isSome=true)(g:zpp P e=some k)(h:jxf bd k (evE E x)=some q):SOk P o E G q:=by have c:x∈o.op.operands:=Wak d;obtain⟨z,hz,h⟩:=jz h;cases h;obtain⟨i,b⟩:=Zp hz;refine SOk.vx λW F H a=>qm ?_;unfold Yp;rw[d];simp only;rw[a.ev c,b];exact jj0 f g
end
def SR.vr(b:Bool)(t:Ty)(x:t.D)(rd:List Nat):SR:=match b with
 |true => .dat t.D (some x) (λy=> .v ⟨t,y⟩) rd
 |false => .now (.v ⟨t,x⟩) rd
section
variable{P:Program}{o:Oper}{E:EF}{G:EG}{rd:List Nat}{F:PFrame}{H:PHeap}{W:Env}
def SOk.vr{b:Bool}{t:Ty}{x:t.D}(h:∀W F H,Agr o E G rd F H->PQ P W o F H (enc t x)):SOk P o E G (.vr b t x rd):=by cases b with|true=>{exact SOk.dat λy c W F H a=>by cases c;simp[TS.den];exact h W F H a}|false=>exact SOk.now λW F H a=>by simp[TS.den];exact h W F H a
def wbo{cs a:Wam PV}:Ref (.rp (cs++a)) (.rp cs):=λZ H V w v h=>by cases h with|rp _ b j g hz e c d=>refine .rp _ b j g hz e (λi p f=>c i p ?_) λi p f=>d i p ?_;{grind};grind
def jos:(r:Ty)->r.D->Nat->Option Dyn
 |.cons a _,x,0=>some ⟨a,x.1⟩
 |.cons _ r,x,i+1=>jos r x.2 i
 |_,_,_=>none
def jie:∀r x i d,jos r x i=some d->(Qd r (jp r x))[i]?=some (enc d.t d.x)
 |.cons a r,x,0,d,h=>by simp[jos]at h;cases h;simp[Qd,jp,List.getElem?_cons_zero];rw[wfj (ju a x.1)];rfl
 |.cons a r,x,i+1,d,h=>by simp[jos]at h;simp[Qd,jp,List.getElem?_cons_succ];rw[wfa (ju a x.1)];exact jie r x.2 i d h
 |.int _,_,_,_,h=>by trivial
 |.bool,_,_,_,h=>by trivial
 |.str,_,_,_,h=>by trivial
 |.sl _,_,_,_,h=>by trivial
 |.ref _,_,_,_,h=>by trivial
 |.arr _ _,_,_,_,h=>by trivial
 |.nil,_,_,_,h=>by trivial
 |.st _,_,_,_,h=>by trivial
 |.tup _,_,_,_,h=>by trivial
def sExt(x:TS)(i:Nat):Option SR:=match x with
 |.tup a=>match a[i]? with
  |some y=>some (.now y [])
  |none=>none
 |.v ⟨.tup r,p⟩=>match jos r p i with
  |some d=>some (.now (.v d) [])
  |none=>none
 |_=>none
def jwl{x:War}{i:Nat}{q:SR}(e:o.op=.extract x i)(h:sExt (evE E x) i=some q):SOk P o E G q:=by have c:x∈o.op.operands:=Wak e;have step:∀{W F H}{cs:Wam PV}{r:PV},(evE E x).den=.tup cs->cs[i]?=some r->Agr o E G [] F H->PQ P W o F H r:=λ{W F H cs r}f k a=>by{refine qm ?_;unfold Yp;rw[e];simp only;rw[a.ev c,f];omega};unfold sExt at h;split at h;{rename_i l b;(split at h<;>try (cases h;done));rename_i y j;cases h;refine SOk.now λW F H a=>step (by rw[b];rfl) ?_ a;rw[zgz,wcv,j];rfl};{rename_i r p b;(split at h<;>try (cases h;done));rename_i d g;cases h;refine SOk.now λW F H a=>?_;simp[TS.den];exact step (by rw[b];rfl) (jie r p i d g) a};grind
def Js{id ver k:Nat}{n:Nat}{t:Wap}{cs:Wam PV}(a:H (.o id)=vz id (G id)){bd:BD}(c:(G id).b=some bd)(d:bd.den id (G id).cv=.row t k n cs)(e:(G id).ver=ver):J6 H (.o id) ver=some (t,k,n,cs):=by unfold J6;rw[a];simp[vz,c,wc5,d];grind
def zgc{id ver k n:Nat}(a:H (.o id)=vz id (G id)){bd:BD}(c:(G id).b=some bd)(d:(bd.den id (G id).cv).kn=some (k,n))(e:(G id).ver=ver):zh7 H (.o id) ver=some (k,n):=by unfold zh7;rw[a];simp[vz,c,wc5];grind
def cellsB:BD->Option (List TS)
 |.box _ a=>some a
 |_=>none
def Q8{id ver:Nat}{t:Wap}{xs:Wam TS}(a:H (.o id)=vz id (G id))(c:(G id).b=some (.box t xs))(d:(G id).ver=ver):qd H (.o id) ver=some (qb xs):=by unfold qd;rw[a];simp[vz,c,wc5,BD.den];grind
def Qo{id ver:Nat}{k n:Nat}{t:Wap}{cs:Wam PV}(a:H (.o id)=vz id (G id)){bd:BD}(c:(G id).b=some bd)(d:bd.den id (G id).cv=.row t k n cs)(e:(G id).ver=ver):qd H (.o id) ver=some cs:=by unfold qd;rw[a];simp[vz,c,wc5,d];grind
def z2n{id ver:Nat}{k n:Nat}{t:Wap}{cs:Wam PV}(a:H (.o id)=vz id (G id)){bd:BD}(c:(G id).b=some bd)(d:bd.den id (G id).cv=.que t k n cs)(e:(G id).ver=ver):qd H (.o id) ver=some cs:=by unfold qd;rw[a];simp[vz,c,wc5,d];grind
def atL{α:Type}(l:List α)(z:Int):Option α:=match decide (0<=z)with
 |true=>l[z.toNat]?
 |false=>none
def jq(n:Nat)(z:Int):Option Int:=match decide (0<=z)with
 |true=>match decide (z.toNat<n)with
  |true=>some z
  |false=>none
 |false=>none
def Zv{α:Type}{l:Wam α}{z:Int}{y:α}(h:atL l z=some y):0<=z/\l[z.toNat]?=some y:=by unfold atL at h;grind
def zmm{n:Nat}{z y:Int}(h:jq n z=some y):0<=z/\z.toNat<n/\y=z:=by unfold jq at h;grind
structure Kids where
 t:Ty
 it:TypeId
 l:List (List t.D)
 h:Hole
def BD.kids:BD->Option Kids
 |.rows _ a t l _ h=>some ⟨t,a,l,h⟩
 |.mrows _ a t b _ h=>some ⟨t,a,b.map λe=>e.2.1,h⟩
 |_=>none
def Kids.at(k:Kids)(p:Int):Option (List k.t.D):=match k.h with
 |none=>atL k.l p
 |some x=>match Nat.beq p.toNat x with
  |true=>none
  |false=>atL k.l p
def zlc(G:EG)(id v:Nat):Option Kids:=match Nat.beq (G id).cv v with
 |true=>match (G id).b with
  |some b=>b.kids
  |none=>none
 |false=>none
def war{k:Kids}{p:Int}{y:Wam k.t.D}(h:k.at p=some y):0<=p/\k.l[p.toNat]?=some y/\k.h.is p.toNat=false:=by unfold Kids.at at h;split at h;{rename_i e;exact⟨(Zv h).1,(Zv h).2,by rw[e];rfl⟩};.rename_i e;split at h;{grind};.rename_i a;exact⟨(Zv h).1,(Zv h).2,by rw[e];exact a⟩
def zin{id v:Nat}{k:Kids}{p:Int}{y:Wam k.t.D}(a:zlc G id v=some k)(g:k.at p=some y)(f:AgN H G id):H (.c id p.toNat)=⟨v,some (.row k.it (wid k.t) y.length (y.flatMap (jp k.t)))⟩:=by
 obtain⟨_,h,i⟩:=war g;unfold zlc at a;split at a<;>try (cases a;done)
 rename_i d;have d:=wcn d;split at a<;>try (cases a;done)
 rename_i b e;rw[f.2];unfold zcc;rw[d,e];unfold BD.kids at a;split at a<;>cases a;{simp[wdv,BD.ch];grind};.simp[wdv,BD.ch];grind
abbrev i64:Ty :=.int .i64
def jgz(bd:Bool)(sl:Bool)(G:EG)(x:TS):Option SR:=match sl with
 |true=>match x with
  |.v ⟨.sl _,l⟩=>some (.vr bd i64 (l.length:Int) [])
  |.own id a=>match Nat.beq (G id).ver a with
   |true=>match (G id).b with
    |some (.row _ t l)=>some (.vr bd i64 (l.length:Int) [id])
    |some (.rowx _ _ d)=>some (.now (.c (.int .i64 d.length)) [id])
    |some (.que _ t l)=>some (.vr bd i64 (l.length:Int) [id])
    |some (.rows _ _ t l _ _)=>some (.vr bd i64 (l.length:Int) [id])
    |_=>none
   |false=>none
  |.kid id p v=>match zlc G id v with
   |some k=>some (.dat (List k.t.D) (k.at p) (λy=> .v ⟨i64,(y.length:Int)⟩) [id])
   |none=>none
  |.c (.slice _ n _)=>some (.now (.c (.int .i64 n)) [])
  |_=>none
 |false=>match x with
  |.v ⟨.str,s⟩=>some (.vr bd i64 (s.length:Int) [])
  |.c (.string s)=>some (.vr bd i64 (s.data.toList.length:Int) [])
  |_=>none
def jik{bd sl:Bool}{t:Nat}{x:War}{q:SR}(A:o.op=.call { callee :=.builtin .len,args:=#[x],argTypes:=#[t] })(i:sl=true->zcu P t=true)(m:sl=false->zek P t=true)(h:jgz bd sl G (evE E x)=some q):SOk P o E G q:=by have z:x∈o.op.operands:=by{rw[A];simp[Op.operands,Call.operands]};have step:∀{rd W F H}{p r:PV},(evE E x).den=p->L.lenP P H t p=some r->Agr o E G rd F H->PQ P W o F H r:=λ{rd W F H p r}B M b=>by{refine qm ?_;unfold Yp;rw[A];show L.lenP P H t (evP F x)=_;rw[b.ev z,B];omega};unfold jgz at h;cases sl with|true=>{simp only at h;split at h;{rename_i w l d;cases h;refine SOk.vr λW F H b=>step (p :=.sl (wid w) (l.map (enc w))) (by rw[d];rfl) ?_ b;unfold L.lenP;simp only;rw[if_pos (i rfl),wc0];rfl};{rename_i id e d;(split at h<;>try (cases h;done));rename_i j;have j:=wcn j;split at h;{rename_i g w l f;cases h;refine SOk.vr λW F H b=>step (p :=.ps (.o id) e) (by rw[d];rfl) ?_ b;unfold L.lenP;simp only;rw[if_pos (i rfl),zgc (b.h id V) f rfl j];rfl};{rename_i g k I f;cases h;refine SOk.now λW F H b=>?_;refine(step (p :=.ps (.o id) e) (by rw[d];rfl) ?_ b:PQ P W o F H (.u (.int .i64 I.length)));unfold L.lenP;simp only;rw[if_pos (i rfl),zgc (b.h id V) f rfl j];rfl};{rename_i g w l f;cases h;refine SOk.vr λW F H b=>step (p :=.ps (.o id) e) (by rw[d];rfl) ?_ b;unfold L.lenP;simp only;rw[if_pos (i rfl),zgc (b.h id V) f rfl j];rfl};{rename_i g O w l kv N f;cases h;refine SOk.vr λW F H b=>step (p :=.ps (.o id) e) (by rw[d];rfl) ?_ b;unfold L.lenP;simp only;rw[if_pos (i rfl),zgc (b.h id V) f rfl j];rfl};grind};{rename_i id p v d;split at h<;>cases h;rename_i k C;refine SOk.dat λy D W F H b=>step (p :=.ps (.c id p.toNat) v) (by rw[d];rfl) ?_ b;unfold L.lenP zh7;simp only;rw[if_pos (i rfl),zin C D (b.hn id V)];simp[if_true,PBody.kn,TS.den];rfl};{rename_i a n c d;cases h;refine SOk.now λW F H b=>?_;refine(step (p :=.u (.slice a n c)) (by rw[d];rfl) ?_ b:PQ P W o F H (.u (.int .i64 n)));unfold L.lenP;grind};grind}|false=>simp only at h;split at h;{rename_i s d;cases h;refine SOk.vr λW F H b=>step (p :=.u (.string ⟨⟨s⟩⟩)) (by rw[d];rfl) ?_ b;unfold L.lenP;simp only;rw[if_pos (m rfl)];rfl};{rename_i s d;cases h;refine SOk.vr λW F H b=>step (p :=.u (.string s)) (by rw[d];rfl) ?_ b;unfold L.lenP;simp only;rw[if_pos (m rfl)];rfl};grind
def oeq(a b:Option Nat):Bool:=match a,b with
 |some x,some y=>Nat.beq x y
 |_,_=>false
def zjt{a:Wal Nat}{k:Nat}(h:oeq a (some k)=true):a=some k:=by unfold oeq at h;split at h;{simp_all};grind
def jrz:TS->Option Int
 |.c (.int _ z)=>some z
 |_=>none
def jw4:List TS->Nat->Bool
 |[],_=>false
 |x::b,a=>match Nat.blt a (Zy x)with
  |true=>match x with
   |.v ⟨.arr _ _,_⟩=>Nat.beq a 0
   |_=>false
  |false=>jw4 b (a-Zy x)
def cstA(xs:List TS)(off:Nat)(i:TS):Option Int:=match jw4 xs off with
 |true=>none
 |false=>jrz i
def jks{xs:Wam TS}{off:Nat}{i:TS}{z:Int}(h:cstA xs off i=some z):jrz i=some z:=by unfold cstA at h;grind
def sIdx(es:Option Nat)(f:Option (Nat×Nat))(G:EG)(x i:TS):Option SR:=yl (zgy i) λz=>match x with
 |.v ⟨.sl t,l⟩=>match oeq es (some (wid t))with
  |true=>some (.dat t.D (atL l z) (λy=> .rd ⟨t,y⟩) [])
  |false=>none
 |.rd ⟨.arr n t,a⟩=>match f with
  |some (g,k)=>match Nat.beq g n && Nat.beq k (wid t)with
   |true=>some (.dat t.D (atL a.l z) (λy=> .rd ⟨t,y⟩) [])
   |false=>none
  |none=>none
 |.own id c=>match Nat.beq (G id).ver c with
  |true=>match (G id).b with
   |some (.row _ t l)=>match oeq es (some (wid t))with
    |true=>some (.dat Int (jq l.length z) (λy=> .elt id (wid t) y 0 c) [id])
    |false=>none
   |some (.que _ t l)=>match oeq es (some (wid t))with
    |true=>some (.dat Int (jq l.length z) (λy=> .elt id (wid t) y 0 c) [id])
    |false=>none
   |some (.rows _ _ _ l _ _)=>match oeq es (some 1)with
    |true=>some (.dat Int (jq l.length z) (λy=> .elt id 1 y 0 c) [id])
    |false=>none
   |some (.rowx _ k e)=>match oeq es (some k)with
    |true=>match jrz i with
     |some z=>match jq e.length z with
      |some z=>some (.now (.pt id (z.toNat*k) c) [id])
      |none=>none
     |none=>none
    |false=>none
   |_=>none
  |false=>none
 |.kid id p v=>match zlc G id v with
  |some k=>match oeq es (some (wid k.t))with
   |true=>some (.dat Int (ja (k.at p) λy=>jq y.length z) (λy=> .kel id p (wid k.t) y 0 v) [id])
   |false=>none
  |none=>none
 |.pt id d c=>match Nat.beq (G id).ver c with
  |true=>match (G id).b with
   |some (.box _ e)=>match f with
    |some (n,k)=>match cstA e d i with
     |some z=>match jq n z with
      |some z=>some (.now (.pt id (d+z.toNat*k) c) [id])
      |none=>none
     |none=>some (.dat Int (jq n z) (λy=> .elt id k y d c) [id])
    |none=>none
   |_=>none
  |false=>none
 |_=>none
def z44{i:TS}{z a:Int}(h:jrz i=some z)(b:zgy i=some a):z=a:=by unfold jrz at h;split at h;{cases h;simp[zgy]at b;grind};grind
def zft{α:Type}(f:α->Wam PV)(k:Nat):∀(l:Wam α),(∀x∈l,(f x).length=k)->∀j y,l[j]?=some y->∃b,(l.flatMap f).drop (j*k)=f y++b
 |[],_,j,y,h=>X
 |a::l,c,0,y,h=>by simp_all
 |a::l,c,j+1,y,h=>by obtain⟨b,d⟩:=zft f k l (λx e=>c x X) j y X;refine⟨b,?_⟩;rw[wdj,Nat.succ_mul,Nat.add_comm,<- List.drop_drop,wfa (c a V)];omega
def juh{t:Nat}{x i:War}{q:SR}(Z:o.op=.indexAddr t x i)(h:sIdx (esz P t) (arr P t) G (evE E x) (evE E i)=some q):SOk P o E G q:=by have J:x∈o.op.operands:=Wak Z;have S:i∈o.op.operands:=Wak Z;unfold sIdx at h;obtain⟨z,hz,h⟩:=jz h;obtain⟨kd,hk⟩:=Zp hz;have step:∀{rd W F H}{p r:PV},(evE E x).den=p->L.indexAddrP P H t p (.u (.int kd z))=some r->Agr o E G rd F H->PQ P W o F H r:=λ{rd W F H p r}h1 h2 d=>by{refine qm ?_;unfold Yp;rw[Z];simp only;rw[d.ev J,d.ev S,h1,hk];omega};split at h;{rename_i w l A;split at h<;>cases h;rename_i f;have f:=zjt f;refine SOk.dat λy g W F H d=>?_;obtain⟨h0,g⟩:=Zv g;simp[TS.den];refine step (p :=.sl (wid w) (l.map (enc w))) (by rw[A];rfl) ?_ d;unfold L.indexAddrP;simp only;rw[if_pos h0,if_pos f,wcv,g];simp[wc5,enc_cells]};{rename_i n w a A;(split at h<;>try (cases h;done));rename_i n' k D;split at h<;>cases h;rename_i m;simp only[wco]at m;have e1:=wcn m.1;have e2:=wcn m.2;subst e1;subst e2;refine SOk.dat λy g W F H d=>?_;obtain⟨h0,g⟩:=Zv g;simp[TS.den];have s:z.toNat<n':=by{rw[<- a.h];grind};obtain⟨Q,hr⟩:=zft (jp w) (wid w) a.l (λx _=>ju w x) _ y g;refine PQ.ref (step (p :=.rp (jp (.arr n' w) a)) (r :=.rp (jp w y++Q)) (by rw[A];rfl) ?_ d) wbo;unfold L.indexAddrP;simp only;rw[if_pos h0,D];simp only;rw[if_pos s];simp[jp];grind};{rename_i id j A;(split at h<;>try (cases h;done));rename_i C;have C:=wcn C;have told:∀{R:BD}{k n:Nat}{q:SR},(G id).b=some R->(R.den id (G id).cv).kn=some (k,n)->oeq (esz P t) (some k)=true->q=.dat Int (jq n z) (λy=> .elt id k y 0 j) [id]->SOk P o E G q:=λ{R k n q}m Y f e=>by{subst e;have f:=zjt f;refine SOk.dat λy g W F H d=>?_;obtain⟨h0,s,rfl⟩:=zmm g;refine(step (p :=.ps (.o id) j) (by rw[A];rfl) ?_ d:PQ P W o F H (TS.elt id k y 0 j).den);simp[TS.den];unfold L.indexAddrP;simp only;rw[if_pos h0,zgc (d.h id V) m Y C];grind};split at h;{rename_i B w l m;split at h<;>cases h;rename_i f;exact told m rfl f rfl};{rename_i B w l m;split at h<;>cases h;rename_i f;exact told m rfl f rfl};{rename_i B it w l kv hh m;split at h<;>cases h;rename_i f;exact told m rfl f rfl};{rename_i B k xs m;(split at h<;>try (cases h;done));rename_i f;have f:=zjt f;(split at h<;>try (cases h;done));rename_i z1 I;have:=z44 I hz;subst this;split at h<;>cases h;rename_i z2 M;obtain⟨h0,s,rfl⟩:=zmm M;refine SOk.now λW F H d=>?_;refine(step (p :=.ps (.o id) j) (by rw[A];rfl) ?_ d:PQ P W o F H (TS.pt id (z2.toNat*k) j).den);simp[TS.den];unfold L.indexAddrP;simp only;rw[if_pos h0,zgc (d.h id V) m rfl C];grind};grind};{rename_i id p v A;(split at h<;>try (cases h;done));rename_i k T;split at h<;>cases h;rename_i f;have f:=zjt f;refine SOk.dat λy g W F H d=>?_;obtain⟨r,hr,g⟩:=qw g;obtain⟨h0,s,rfl⟩:=zmm g;refine(step (p :=.ps (.c id p.toNat) v) (by rw[A];rfl) ?_ d:PQ P W o F H (TS.kel id p (wid k.t) y 0 v).den);simp[TS.den];unfold L.indexAddrP zh7;simp only;rw[if_pos h0,zin T hr (d.hn id V)];simp[if_true,PBody.kn];grind};{rename_i id O j A;(split at h<;>try (cases h;done));rename_i C;have C:=wcn C;(split at h<;>try (cases h;done));rename_i B xs m;(split at h<;>try (cases h;done));rename_i n k D;have N:∀{W F H}{y:Int},jq n z=some y->Agr o E G [id] F H->PQ P W o F H (.pp (.o id) (O+y.toNat*k) j):=λ{W F H y}g d=>by{obtain⟨h0,s,rfl⟩:=zmm g;refine step (p :=.pp (.o id) O j) (by rw[A];rfl) ?_ d;unfold L.indexAddrP;simp only;rw[if_pos h0,D];simp only;rw[if_pos s,Q8 (d.h id V) m C];rfl};split at h;{rename_i z1 I;have:=z44 (jks I) hz;subst this;split at h<;>cases h;rename_i z2 M;exact SOk.now λW F H d=>by simp[TS.den];exact N M d};.cases h;refine SOk.dat λy g W F H d=>?_;simp[TS.den];rw[Nat.add_comm];exact N g d};grind
end
def ldT(ag:Bool)(k off:Nat)(xs:List TS):Option TS:=match zcz 512 off xs with
 |none=>none
 |some q=>match zcz 512 k q.2 with
  |none=>none
  |some r=>match zeh ag r.1 with
   |.dead=>none
   |s=>match ag ||Nat.beq k 1 with
    |true=>some s
    |false=>none
def zj0{ag:Bool}{k off:Nat}{xs:Wam TS}{s:TS}(h:ldT ag k off xs=some s):(∃p,Y6 ag k ((qb xs).drop off)=some p/\Ref p s.den)/\∃a,(qb xs).drop off=s.den.cells++a:=by
 unfold ldT at h;split at h<;>try (cases h;done)
 rename_i q d;split at h<;>try (cases h;done)
 rename_i r f;split at h<;>try (cases h;done)
 rename_i b;split at h<;>cases h;rename_i l;obtain⟨g,i⟩:=Vz _ _ _ _ d;obtain⟨b1,c⟩:=Vz _ _ _ _ f;have e:(qb xs).drop off=qb r.1++qb r.2:=X;rw[e];refine⟨jiw c λj=>?_,qb r.2,by rw[zbp b]⟩;simp_all
section
variable{P:Program}{o:Oper}{E:EF}{G:EG}{rd:List Nat}{F:PFrame}{H:PHeap}{W:Env}
def sFld(e k:Nat)(ag:Bool)(G:EG)(x:TS):Option SR:=match Nat.beq k 0 with
 |true=>none
 |false=>match x with
  |.rd d=>match ldT ag k e [.v d]with
   |some (.v f)=>some (.now (.rd f) [])
   |_=>none
  |.pt id c a=>match Nat.beq (G id).ver a with
   |true=>match (G id).b with
    |some (.box _ _)=>some (.now (.pt id (c+e) a) [id])
    |some (.rowx _ _ _)=>some (.now (.pt id (c+e) a) [id])
    |_=>none
   |false=>none
  |.elt id w i c a=>match Nat.beq (G id).ver a with
   |true=>match (G id).b with
    |some (.box _ _)=>some (.now (.elt id w i (c+e) a) [id])
    |some (.row _ _ _)=>some (.now (.elt id w i (c+e) a) [id])
    |_=>none
   |false=>none
  |_=>none
def zqn{id ver:Nat}(c:H (.o id)=vz id (G id)){bd:BD}(d:(G id).b=some bd)(f:(∃t a,bd=.box t a)\/(∃t k a,bd=.rowx t k a)\/(∃t y l,bd=.row t y l))(e:(G id).ver=ver):(qd H (.o id) ver).isSome=true:=by
 rcases f with⟨t,a,rfl⟩|⟨t,k,a,rfl⟩|⟨t,y,l,rfl⟩
 {rw[Q8 c d e];rfl};{rw[Qo c d rfl e];rfl};.rw[Qo c d rfl e];rfl
def jvp{s f u D k:Nat}{ag:Bool}{x:War}{q:SR}(I:o.op=.fieldAddr s x f)(Q:fof P s f=some (u,D))(S:asz P D=some (ag,k))(h:sFld u k ag G (evE E x)=some q):SOk P o E G q:=by have z:x∈o.op.operands:=Wak I;have step:∀{rd W F H}{p r:PV},(evE E x).den=p->L.fieldAddrP P H s f p=some r->Agr o E G rd F H->PQ P W o F H r:=λ{rd W F H p r}v N a=>by{refine qm ?_;unfold Yp;rw[I];simp only;rw[a.ev z,v];omega};unfold sFld at h;(split at h<;>try (cases h;done));rename_i m;have m:¬k=0:=λe=>by{simp_all};have own:∀{W F H}{id B b:Nat},(evE E x).den=.pp (.o id) B b->(qd H (.o id) b).isSome=true->Agr o E G [id] F H->PQ P W o F H (.pp (.o id) (B+u) b):=λ{W F H id B b}v N a=>by{refine step v ?_ a;unfold L.fieldAddrP;rw[Q];simp only;rw[S];simp only;rw[if_neg m];cases T:qd H (.o id) b with|none=>{grind}|some cs=>rfl};split at h;{rename_i d j;split at h<;>cases h;rename_i C O;obtain⟨_,n,R⟩:=zj0 O;simp[qb,TS.den,enc_cells,wc1]at R;refine SOk.now λW F H a=>?_;refine PQ.ref (step (p :=.rp (jp d.t d.x)) (r :=.rp (jp C.t C.x++n)) (by rw[j];rfl) ?_ a) wbo;unfold L.fieldAddrP;grind};{rename_i id A b j;(split at h<;>try (cases h;done));rename_i c;have c:=wcn c;split at h<;>cases h;{rename_i t M g;exact SOk.now λW F H a=>by simp[TS.den];exact own (by rw[j];rfl) (zqn (a.h id V) g (.inl ⟨_,_,rfl⟩) c) a};.rename_i t w M g;exact SOk.now λW F H a=>by simp[TS.den];exact own (by rw[j];rfl) (zqn (a.h id V) g (.inr (.inl ⟨_,_,_,rfl⟩)) c) a};{rename_i id w i A b j;(split at h<;>try (cases h;done));rename_i c;have c:=wcn c;split at h<;>cases h;{rename_i t M g;exact SOk.now λW F H a=>by simp[TS.den];rw[<- Nat.add_assoc];exact own (by rw[j];rfl) (zqn (a.h id V) g (.inl ⟨_,_,rfl⟩) c) a};.rename_i t y l g;exact SOk.now λW F H a=>by simp[TS.den];rw[<- Nat.add_assoc];exact own (by rw[j];rfl) (zqn (a.h id V) g (.inr (.inr ⟨_,_,_,rfl⟩)) c) a};grind
def zue:List TS->Nat->Option (TS×Nat)
 |[],_=>none
 |x::b,a=>match Nat.blt a (Zy x)with
  |true=>some (x,a)
  |false=>zue b (a-Zy x)
def zqd:∀{xs:Wam TS}{off:Nat}{r:TS×Nat},zue xs off=some r->∃a post,qb xs=a++r.1.den.cells++post/\a.length+r.2=off/\r.2<Zy r.1
 |[],off,r,h=>by trivial
 |x::xs,off,r,h=>by simp[zue]at h;split at h;{rename_i e;cases h;refine⟨[],qb xs,Wab,V,by simp_all⟩};.rename_i e;obtain⟨a,post,c,f,d⟩:=zqd h;refine⟨x.den.cells++a,post,by simp[qb,c,wc2],?_,d⟩;have g:=zj1 x;have:¬off<Zy x:=by{intro b;have:Nat.blt off (Zy x)=true:=by{simpa [Nat.blt_eq]using b};grind};grind
def arr1(xs:List TS)(off:Nat):Option (TS×Nat):=match zue xs off with
 |some (.v ⟨.st r,y⟩,o)=>match zq9 (.v ⟨.st r,y⟩)with
  |some a=>zue a o
  |none=>none
 |q=>q
def jun{xs:Wam TS}{off:Nat}{r:TS×Nat}(h:arr1 xs off=some r):∃a post,qb xs=a++r.1.den.cells++post/\a.length+r.2=off/\r.2<Zy r.1:=by unfold arr1 at h;split at h;{rename_i n y o c;(split at h<;>try (cases h;done));rename_i p d;obtain⟨j,l,b,e,f⟩:=zqd c;obtain⟨k,m,b1,g,i⟩:=zqd h;rw[zgi d rfl]at b;simp[PV.cells]at b;grind};.exact zqd h
def zjr(o:Option TS):TS:=match o with
 |some s=>s
 |none => .dead
def sLd(ag:Bool)(k:Nat)(G:EG)(x:TS):Option SR:=match x with
 |.rd d=>match ldT ag k 0 [.v d]with
  |some s=>some (.now s [])
  |none=>none
 |.v ⟨.ref t,p⟩=>match Nat.ble k (wid t) && (ag ||Nat.beq k 1)with
  |true=>some (.dat t.D p (λy=>zjr (ldT ag k 0 [.v ⟨t,y⟩])) [])
  |false=>none
 |.pt id e g=>match Nat.beq (G id).ver g with
  |true=>match (G id).b with
   |some (.box _ j)=>match ldT ag k e j with
    |some s=>some (.now s [id])
    |none=>none
   |some (.rowx _ _ j)=>match ldT ag k e j with
    |some s=>some (.now s [id])
    |none=>none
   |_=>none
  |false=>none
 |.elt id w i e g=>match Nat.beq (G id).ver g with
  |true=>match (G id).b with
   |some (.row _ t l)=>match Nat.beq w (wid t) && (Nat.ble (e+k) w && (ag ||Nat.beq k 1))with
    |true=>some (.dat t.D (atL l i) (λy=>zjr (ldT ag k e [.v ⟨t,y⟩])) [id])
    |false=>none
   |some (.que _ t l)=>match Nat.beq w (wid t) && (Nat.ble (e+k) w && (ag ||Nat.beq k 1))with
    |true=>some (.dat t.D (atL l i) (λy=>zjr (ldT ag k e [.v ⟨t,y⟩])) [id])
    |false=>none
   |some (.box _ j)=>match arr1 j e with
    |some (.v ⟨.arr n t,a⟩,f)=>match Nat.beq w (wid t) && (Nat.ble (f+k) w && (ag ||Nat.beq k 1))with
     |true=>some (.dat t.D (atL a.l i) (λy=>zjr (ldT ag k f [.v ⟨t,y⟩])) [id])
     |false=>none
    |_=>none
   |some (.rows _ m t l _ h)=>match Nat.beq w 1 && Nat.beq e 0 && Nat.beq k 1 && !ag with
    |true=>some (.dat (List t.D) (Kids.at ⟨t,m,l,h⟩ i) (λ_=> .kid id i (G id).cv) [id])
    |false=>none
   |_=>none
  |false=>none
 |.kel id p w i e v=>match zlc G id v with
  |some c=>match Nat.beq w (wid c.t) && (Nat.ble (e+k) w && (ag ||Nat.beq k 1))with
   |true=>some (.dat c.t.D (ja (c.at p) λy=>atL y i) (λy=>zjr (ldT ag k e [.v ⟨c.t,y⟩])) [id])
   |false=>none
  |none=>none
 |_=>none
def jkj{ag:Bool}{k:Nat}{cs ds:Wam PV}{p:PV}(h:Y6 ag k cs=some p):Y6 ag k (cs++ds)=some p:=by unfold Y6 at h⊢;grind
def z49{ag:Bool}{k off:Nat}{t:Ty}{y:t.D}{cs rest:Wam PV}(b:cs=jp t y++rest)(g:∃p,Y6 ag k (cs.drop off)=some p):∃p,Y6 ag k (cs.drop off)=some p/\Ref p (zjr (ldT ag k off [.v ⟨t,y⟩])).den:=by unfold zjr;split;{rename_i s i;obtain⟨⟨p,a,e⟩,d,f⟩:=zj0 i;simp[qb,TS.den,enc_cells,wc1]at a f;refine⟨p,?_,e⟩;rw[b];by_cases c:off<=(jp t y).length;{rw[List.drop_append_of_le_length c];exact jkj a};.rw[wds U]at a;unfold Y6 at a;cases ag with|true=>{simp only[if_true,weo]at a;split at a;{rename_i j;have:k=0:=U;subst this;assumption};grind}|false=>grind};.obtain⟨p,h⟩:=g;exact⟨p,h,by simp[TS.den];exact Ref.unk p⟩
def z35{ag:Bool}{k:Nat}{cs:Wam PV}(h:k<=cs.length)(a:(ag ||Nat.beq k 1)=true):∃p,Y6 ag k cs=some p:=by unfold Y6;cases ag with|true=>{simp_all}|false=>have:k=1:=wcn X;cases cs with|nil=>{grind}|cons c cs=>simp
def zzk{ag:Bool}{k off i:Nat}{t:Ty}{l:Wam t.D}{y:t.D}(c:l[i]?=some y)(g:off+k<=wid t)(f:(ag ||Nat.beq k 1)=true)(rest:Wam PV):∃p,Y6 ag k ((l.flatMap (jp t)++rest).drop (i*wid t+off))=some p/\Ref p (zjr (ldT ag k off [.v ⟨t,y⟩])).den:=by obtain⟨h,j⟩:=zft (jp t) (wid t) l (λx _=>ju t x) i y c;have a:(l.flatMap (jp t)).length=l.length*wid t:=J4 _ _ _ λx _=>ju t x;have d:=(wcl.1 c).1;have b:i*wid t+wid t<=l.length*wid t:=by{have:(i+1)*wid t<=l.length*wid t:=weg _ d;grind};have e:(l.flatMap (jp t)++rest).drop (i*wid t)=jp t y++(h++rest):=by{grind};rw[<- List.drop_drop,e];refine z49 rfl (z35 ?_ f);grind
theorem sLd_ok{t k:Nat}{ag:Bool}{x:Operand}{q:SR}(ho:o.op=.load t x)(ht:asz P t=some (ag,k))(h:sLd ag k G (evE E x)=some q):SOk P o E G q:=by
 have a2:x∈o.op.operands:=by rw[ho];simp[Op.operands]
 have step:∀{rd W F H}{p r:PV},(evE E x).den=p->zco P H t p=some r->Agr o E G rd F H->PQ P W o F H r:=λ{rd W F H p r}L M f=>by
  refine qm ?_;unfold Yp;rw[ho];simp only;rw[f.ev a2,L];omega
 have own:∀{W F H}{id oo A:Nat}{cs:List PV}{s:TS},(evE E x).den=.pp (.o id) oo A->qd H (.o id) A=some cs->(∃p,Y6 ag k (cs.drop oo)=some p/\Ref p s.den)->Agr o E G [id] F H->PQ P W o F H s.den:=λ{W F H id oo A cs s}L M h3 f=>by
  obtain⟨p,hp,hr⟩:=h3;refine PQ.ref (step L ?_ f) hr;unfold zco
  grind
 unfold sLd at h;split at h
 ·rename_i d B;split at h<;>cases h;rename_i s N;obtain⟨⟨p,L,M⟩,_⟩:=zj0 N;simp[qb,TS.den,enc_cells,wc1,wff]at L;refine SOk.now λW F H f=>PQ.ref (step (p :=.rp (jp d.t d.x)) (by rw[B];rfl) ?_ f) M;unfold zco
  grind
 ·rename_i u p B;split at h<;>cases h;rename_i g;simp only[wco]at g;refine SOk.dat λy j W F H f=>?_;subst j;obtain⟨p,L,M⟩:=z49 (y:=y) (cs:=jp u y) (rest:=[]) (by simp) (z35 (by rw[wff,ju];simp_all) g.2);refine PQ.ref (step (p :=.rp (jp u y)) (by rw[B];rfl) ?_ f) M;unfold zco
  grind
 ·rename_i id z A B;split at h<;>try (cases h;done)
  rename_i I;have I:=wcn I;split at h<;>try (cases h;done)
  ·rename_i Q xs m;split at h<;>cases h;rename_i s N;exact SOk.now λW F H f=>own (by rw[B];rfl) (Q8 (f.h id (by simp)) m I) (zj0 N).1 f
  ·rename_i Q w xs m;split at h<;>cases h;rename_i s N;exact SOk.now λW F H f=>own (by rw[B];rfl) (Qo (f.h id (by simp)) m rfl I) (zj0 N).1 f
 ·rename_i id w i z A B;split at h<;>try (cases h;done)
  rename_i I;have I:=wcn I;have told:∀{bd:BD}{u:Ty}{l:List u.D}{q:SR},(G id).b=some bd->(∀H,H (.o id)=vz id (G id)->qd H (.o id) A=some (l.flatMap (jp u)))->(Nat.beq w (wid u) && (Nat.ble (z+k) w && (ag ||Nat.beq k 1)))=true->q=.dat u.D (atL l i) (λy=>zjr (ldT ag k z [.v ⟨u,y⟩])) [id]->SOk P o E G q:=λ{bd u l q}m hl g e=>by
   subst e;simp only[wco]at g;have e:=wcn g.1;have C:=wej g.2.1;subst e;refine SOk.dat λy j W F H f=>?_;obtain⟨h0,j⟩:=Zv j;refine own (by rw[B];rfl) (hl H (f.h id (by simp))) ?_ f;have:=zzk j C g.2.2 []
   grind
  split at h<;>try (cases h;done)
  ·rename_i Q u l m;split at h<;>cases h;rename_i g;exact told m (λH Y=>Qo Y m rfl I) g rfl
  ·rename_i Q u l m;split at h<;>cases h;rename_i g;exact told m (λH Y=>z2n Y m rfl I) g rfl
  ·rename_i Q xs m;split at h<;>try (cases h;done)
   rename_i n u a O Z;split at h<;>cases h;rename_i g;simp only[wco]at g;have e:=wcn g.1;have C:=wej g.2.1;subst e;refine SOk.dat λy j W F H f=>?_;obtain⟨h0,j⟩:=Zv j;obtain⟨a4,post,L,M,h3⟩:=jun Z;simp only at L M;refine own (by rw[B];rfl) (Q8 (f.h id (by simp)) m I) ?_ f;simp only[TS.den,enc_cells,jp]at L;have:=zzk j C g.2.2 post;rw[L,show i.toNat*wid u+z=a4.length+(i.toNat*wid u+O) by omega,<- List.drop_drop,wc2,wfa rfl];omega
  ·rename_i Q it u l kv hh m;split at h<;>cases h;rename_i g;simp only[wco,wd6]at g;obtain⟨⟨⟨R,S⟩,T⟩,rfl⟩:=g;have R:=wcn R;have S:=wcn S;have T:=wcn T;subst R;subst S;subst T;refine SOk.dat λy j W F H f=>?_;obtain⟨h0,j,hi⟩:=war j;simp only at j hi;refine own (by rw[B];rfl) (Qo (f.h id (by simp)) m rfl I) ⟨.ps (.c id i.toNat) (G id).cv,?_,by simp[TS.den];exact Ref.refl _⟩ f;have J:=(wcl.1 j).1;unfold Y6;simp[J,Hole.cell,hi]
 ·rename_i id p w i z v B;split at h<;>try (cases h;done)
  rename_i c hk;split at h<;>cases h;rename_i g;simp only[wco]at g;have e:=wcn g.1;have C:=wej g.2.1;subst e;refine SOk.dat λy j W F H f=>?_;obtain⟨r,hr,j⟩:=qw j;obtain⟨h0,j⟩:=Zv j;have m:=zin hk hr (f.hn id (by simp));obtain⟨q,hq,a0⟩:=zzk j C g.2.2 [];refine PQ.ref (step (p :=.pp (.c id p.toNat) (i.toNat*wid c.t+z) v) (by rw[B];rfl) ?_ f) a0;unfold zco qd
  grind
 grind
def je4(s:TS):Option (List TS):=match s with
 |.v ⟨.arr n t,a⟩=>some [.v ⟨.arr n t,a⟩]
 |s=>zfb s
def jjz{s:TS}{xs:Wam TS}(h:je4 s=some xs):s.den=.agg (qb xs):=by unfold je4 at h;split at h;{cases h;simp[ qb,enc_cells];rfl};.exact zi0 h
def sFie(a k:Nat)(ag:Bool)(x:TS):Option SR:=match je4 x with
 |some b=>match ldT ag k a b with
  |some s=>some (.now s [])
  |none=>none
 |none=>none
def jtt{t f d e k:Nat}{ag:Bool}{x:War}{q:SR}(g:o.op=.field t x f)(j:fof P t f=some (d,e))(n:asz P e=some (ag,k))(h:sFie d k ag (evE E x)=some q):SOk P o E G q:=by have b:x∈o.op.operands:=Wak g;unfold sFie at h;(split at h<;>try (cases h;done));rename_i r c;split at h<;>cases h;rename_i s l;obtain⟨⟨p,m,i⟩,_⟩:=zj0 l;refine SOk.now λW F H a=>PQ.ref (qm ?_) i;unfold Yp;rw[g];simp only;rw[a.ev b,jjz c];unfold z6n;rw[j];unfold z4m;grind
def zgv(s:List UInt8)(z:Int):Option Int:=match decide (0<=z)with
 |true=>(s[z.toNat]?).map λb=>(b.toNat:Int)
 |false=>none
def jw1(x i:TS):Option SR:=yl (zgy i) λz=>yl (Ys .str x) λs=>some (.vo (.int .u8) (zgv s z))
def jrr{t:Wap}{x i:War}{q:SR}(f:o.op=.index t x i)(p:zek P t=true)(h:jw1 (evE E x) (evE E i)=some q):SOk P o E G q:=by
 have g:x∈o.op.operands:=Wak f;have d:i∈o.op.operands:=Wak f;obtain⟨z,hz,h⟩:=jz h;obtain⟨s,n,h⟩:=jz h;cases h;obtain⟨v,m⟩:=Zp hz;refine SOk.vo λr c W F H a=>qm ?_;unfold zgv at c;split at c<;>try (cases c;done)
 rename_i h0;have h0:=wcj h0;obtain⟨b,l,rfl⟩:=wct.1 c;unfold Yp;rw[f];simp only;rw[a.ev g,a.ev d,zx n,m];show zof P t (.u (.string ⟨⟨s⟩⟩)) (.u (.int v z))=_;unfold zof;simp only;rw[if_pos p,if_pos h0];have:(⟨⟨s⟩⟩:ByteArray)[z.toNat]?=some b:=by
  have e:=(wcl.1 l)
  obtain⟨j,k⟩:=e;have:=j;rw[getElem?_pos (⟨⟨s⟩⟩:ByteArray) z.toNat this];exact congrArg some k
 rw[this];rfl
def bdL(d:Nat):Option TS->Option (Option Int)
 |none=>some none
 |some s=>match zgy s with
  |some z=>some (some z)
  |none=>none
def bdN(d:Nat):Option Int->Option Nat
 |none=>some d
 |some z=>match decide (0<=z)with
  |true=>some z.toNat
  |false=>none
def zg9{α:Type}(l:List α)(lo hi:Option Int):Option (List α):=match bdN 0 lo with
 |none=>none
 |some a=>match bdN l.length hi with
  |none=>none
  |some b=>match decide (a<=b) && decide (b<=l.length)with
   |true=>some ((l.take b).drop a)
   |false=>none
def sSli(es:Option Nat)(str:Bool)(x:TS)(lo hi:Option TS):Option SR:=yl (bdL 0 lo) λa=>yl (bdL 0 hi) λb=>match x with
 |.v ⟨.sl t,l⟩=>match oeq es (some (wid t))with
  |true=>some (.vo (.sl t) (zg9 l a b))
  |false=>none
 |.v ⟨.str,s⟩=>match str with
  |true=>some (.vo .str (zg9 s a b))
  |false=>none
 |_=>none
def z85{d b:Nat}{lo:Wal War}{F:Wav}(c:∀x,lo=some x->evP F x=(evE E x).den){a:Wal Int}(h:bdL d (lo.map (evE E))=some a):zjx b (lo.map (evP F))=bdN b a:=by cases lo with|none=>{simp[ bdL]at h;cases h;rfl}|some x=>simp[ bdL]at h;split at h<;>cases h;rename_i z hz;obtain⟨k,e⟩:=Zp hz;simp;unfold zjx bdN;grind
def jvy{t:Wap}{x:War}{lo hi:Wal War}{q:SR}(j:o.op=.slice t x lo hi none)(h:sSli (esz P t) (zek P t) (evE E x) (lo.map (evE E)) (hi.map (evE E))=some q):SOk P o E G q:=by have k:x∈o.op.operands:=Wak j;have i:∀y,lo=some y->y∈o.op.operands:=λy e=>by{rw[j];subst e;simp[Op.operands]};have g:∀y,hi=some y->y∈o.op.operands:=λy e=>by{rw[j];subst e;simp[Op.operands]};obtain⟨a,A,h⟩:=jz h;obtain⟨b,B,h⟩:=jz h;split at h;{rename_i C l z;(split at h<;>try (cases h;done));rename_i p;cases h;have p:=zjt p;refine SOk.vo λr d W F H c=>qm ?_;unfold Yp;rw[j];simp only;rw[c.ev k,z];simp[TS.den];rw[zji];unfold zs5;simp only;rw[z85 (λy e=>c.ev (i y e)) A,z85 (λy e=>c.ev (g y e)) B,wc0];unfold zg9 at d;(split at d<;>try (cases d;done));rename_i n1 m;(split at d<;>try (cases d;done));rename_i n2 n;split at d<;>cases d;rename_i f;simp[ wc9]at f;rw[m,n];simp only;rw[if_pos ⟨p,f.1,f.2⟩,zji,List.map_drop,List.map_take]};{rename_i s z;(split at h<;>try (cases h;done));rename_i v;cases h;refine SOk.vo λr d W F H c=>qm ?_;unfold Yp;rw[j];simp only;rw[c.ev k,z];show zs5 P t (.u (.string ⟨⟨s⟩⟩)) _ _=_;unfold zs5;simp only;have w:(⟨⟨s⟩⟩:ByteArray).size=s.length:=rfl;rw[z85 (λy e=>c.ev (i y e)) A,z85 (λy e=>c.ev (g y e)) B,w];unfold zg9 at d;(split at d<;>try (cases d;done));rename_i n1 m;(split at d<;>try (cases d;done));rename_i n2 n;split at d<;>cases d;rename_i f;simp[ wc9]at f;rw[m,n];simp only;rw[if_pos ⟨v,f.1,f.2⟩];have:(⟨⟨s⟩⟩:ByteArray).extract n1 n2=⟨⟨(s.take n2).drop n1⟩⟩:=by{apply ByteArray.ext;rw[ByteArray.data_extract];grind};rw[this];rfl};grind
end
def BD.celled:BD->Bool
 |.obj _ _=>false
 |.mrows _ _ _ _ _ _=>false
 |.iter _ _ _ _=>false
 |_=>true
def z3l(G:EG)(id ver:Nat):Bool:=match Nat.beq (G id).ver ver with
 |true=>match (G id).b with
  |some a=>a.celled
  |none=>false
 |false=>false
def rowB(G:EG)(id ver:Nat):Bool:=match Nat.beq (G id).ver ver with
 |true=>match (G id).b with
  |some (.row _ _ _)=>true
  |some (.rowx _ _ _)=>true
  |_=>false
 |false=>false
def ownB(G:EG)(id ver:Nat):Bool:=match Nat.beq (G id).ver ver with
 |true=>(G id).b.isSome
 |false=>false
mutual
def okT(G:EG):TS->Bool
 |.v d=>zhz d.t
 |.c (.agg b)=>b.toList.all Value.oneCell'
 |.c v=>v.oneCell'
 |.own id a=>ownB G id a
 |.q id _ _ a=>rowB G id a
 |.pt id _ a=>z3l G id a
 |.elt id _ _ _ a=>z3l G id a
 |.rd _=>true
 |.fn _ _ _=>true
 |.agg e=>jfm G e
 |_=>false
def jfm(G:EG):List TS->Bool
 |[]=>true
 |x::a=>okT G x && jfm G a
end
mutual
def zl2:TS->List Nat
 |.own id _=>[id]
 |.q id _ _ _=>[id]
 |.pt id _ _=>[id]
 |.elt id _ _ _ _=>[id]
 |.agg a=>zlv a
 |_=>[]
def zlv:List TS->List Nat
 |[]=>[]
 |x::a=>zl2 x++zlv a
end
section
variable{P:Program}{o:Oper}{E:EF}{G:EG}{rd:List Nat}{F:PFrame}{H:PHeap}{W:Env}
def jml{id ver:Nat}(h:rowB G id ver=true)(c:H (.o id)=vz id (G id)):(J6 H (.o id) ver).isSome=true:=by
 unfold rowB at h;split at h<;>try (cases h;done)
 rename_i a;have a:=wcn a;split at h<;>try (cases h;done)
 {rename_i b;rw[Js c b rfl a];rfl};.rename_i b;rw[Js c b rfl a];rfl
def jjy{id ver:Nat}(h:ownB G id ver=true)(a:H (.o id)=vz id (G id)):((H (.o id)).body.isSome && Nat.beq (H (.o id)).ver ver)=true:=by unfold ownB at h;(split at h<;>try (cases h;done));rename_i b;rw[a];simp[vz,Option.isSome_map,h,b,Bool.and_self]
def zjg{id ver:Nat}(h:z3l G id ver=true)(b:H (.o id)=vz id (G id)):(qd H (.o id) ver).isSome=true:=by
 unfold z3l at h;split at h<;>try (cases h;done)
 rename_i d;split at h<;>try (cases h;done)
 rename_i a c;unfold qd;rw[b];simp[vz,c,wc5,wcn d,if_true];cases a<;>first|rfl|cases h
mutual
theorem ja5:∀(s:TS),okT G s=true->(∀id∈zl2 s,H (.o id)=vz id (G id))->∀c∈s.den.cells,V4 H c=true
 |.v d,h,g,c,e=>by simp only[okT]at h;simp only[TS.den,enc_cells]at e;exact zf7 _ _ H h c e
 |.c v,h,g,c,e=>by simp only[TS.den]at e;cases v with|agg p=>{simp only[okT,wdu]at h;simp only[ofV,PV.cells]at e;obtain⟨u,m,rfl⟩:=wc6.1 e;exact h u m}|_=>simp only[okT]at h;simp only[ofV,PV.cells,wcr]at e;subst e;exact h
 |.own id j,h,g,c,e=>by simp only[okT]at h;simp only[TS.den,PV.cells,wcr]at e;subst e;exact jjy h (g id (by simp only[zl2,wcr]))
 |.q id k l j,h,g,c,e=>by simp only[okT]at h;simp only[TS.den,PV.cells,wcr]at e;subst e;exact jml h (g id (by simp only[zl2,wcr]))
 |.pt id l j,h,g,c,e=>by simp only[okT]at h;simp only[TS.den,PV.cells,wcr]at e;subst e;exact zjg h (g id (by simp only[zl2,wcr]))
 |.elt id k i l j,h,g,c,e=>by simp only[okT]at h;simp only[TS.den,PV.cells,wcr]at e;subst e;exact zjg h (g id (by simp only[zl2,wcr]))
 |.rd d,h,g,c,e=>by simp only[TS.den,PV.cells,wcr]at e;subst e;rfl
 |.fn f a b,h,g,c,e=>by simp only[TS.den,PV.cells,wcr]at e;subst e;rfl
 |.agg n,h,g,c,e=>by simp only[okT]at h;simp only[TS.den,PV.cells]at e;exact z33 n h (by simpa only [zl2]using g) c e
 |.kid _ _ _,h,g,c,e=>by simp[okT]at h
 |.kel _ _ _ _ _ _,h,g,c,e=>by simp[okT]at h
 |.dead,h,g,c,e=>by simp[okT]at h
 |.tup _,h,g,c,e=>by simp[okT]at h
theorem z33:∀(xs:Wam TS),jfm G xs=true->(∀id∈zlv xs,H (.o id)=vz id (G id))->∀c∈qb xs,V4 H c=true
 |[],h,d,c,a=>by simp[qb]at a
 |x::xs,h,d,c,a=>by simp only[jfm,wco]at h;simp only[qb,wcu]at a;simp only[zlv,wcu]at d;rcases a with a|a;{exact ja5 x h.1 (λid b=>d id (.inl b)) c a};.exact z33 xs h.2 (λid b=>d id (.inr b)) c a
end
def okC_of{p:PV}(h:∀c∈p.cells,V4 H c=true)(a:(∃cs,p=.agg cs)\/p.cells=[p]):okC H p=true:=by rcases a with⟨cs,rfl⟩|a;{simp[okC,wdu];exact h};.have:=h p X;cases p with|agg cs=>{trivial}|_=>exact this
def zf2{s:TS}(h:okT G s=true)(hi:∀id∈zl2 s,H (.o id)=vz id (G id)):okC H s.den=true:=by refine okC_of (ja5 s h hi) ?_;cases a:zah s;{exact .inr (Ze a)};.exact .inl ⟨_,zgn a⟩
abbrev ZT:=TypeId->Option (List TS)
def zh8(P:Program)(zt:ZT):Prop:=∀t a,zt t=some a->∃us,zrf P t=some us/\us.all Value.oneCell'=true/\RefL (us.map .u) (qb a)
def z1y(off k:Nat)(s:TS)(xs:List TS):Option (List TS):=match zcz 512 off xs with
 |none=>none
 |some q=>match zcz 512 k q.2 with
  |none=>none
  |some r=>match Nat.beq (Zy s) k with
   |true=>some (q.1++s::r.2)
   |false=>none
def zhs{off k:Nat}{s:TS}{xs ys:Wam TS}(h:z1y off k s xs=some ys):qb ys=setMany (qb xs) off s.den.cells/\off+k<=(qb xs).length/\s.den.cells.length=k:=by
 unfold z1y at h;split at h<;>try (cases h;done)
 rename_i q c;split at h<;>try (cases h;done)
 rename_i r d;split at h<;>cases h;rename_i a;have a:s.den.cells.length=k:=by{rw[zj1];simp_all};obtain⟨b,e⟩:=Vz _ _ _ _ c;obtain⟨b1,f⟩:=Vz _ _ _ _ d;refine⟨?_,?_,a⟩;{unfold setMany;rw[zuq,<- b,<- b1];simp[qb];grind};grind
def jbm(places:List (Nat×Nat)):List TS->List (Nat×TS)->Option (List TS)
 |xs,[]=>some xs
 |xs,(i,s)::r=>match places[i]? with
  |none=>none
  |some a=>match z1y a.1 a.2 s xs with
   |some b=>jbm places b r
   |none=>none
def RefL.setMany{cs ds:Wam PV}(h:RefL cs ds)(off:Nat)(ps:Wam PV):RefL (setMany cs off ps) (setMany ds off ps):=RefL.append (RefL.append (h.take off) (RefL.refl ps)) (h.drop _)
def z9y{places:Wam (Nat×Nat)}:∀(a:Wam (Nat×TS))(xs ys:Wam TS)(cs:Wam PV),jbm places xs a=some ys->RefL cs (qb xs)->(∀p∈a,okC H p.2.den=true)->∃r,zke H places cs (a.map λp=>(p.1,p.2.den))=some r/\RefL r (qb ys)
 |[],xs,ys,cs,h,b,_=>by simp[jbm]at h;cases h;exact⟨cs,rfl,b⟩
 |(i,s)::a,xs,ys,cs,h,b,e=>by simp[jbm]at h;(split at h<;>try (cases h;done));rename_i f c;(split at h<;>try (cases h;done));rename_i n hz;obtain⟨j,o,k⟩:=zhs hz;obtain⟨r,l,d⟩:=z9y a n ys (setMany cs f.1 s.den.cells) h (by rw[j];exact b.setMany _ _) λp q=>e p X;refine⟨r,?_,d⟩;obtain⟨m,g⟩:=f;simp only[wc7,zke,c];rw[if_pos ⟨k,by rw[b.1];omega,e (i,s) V⟩];omega
def zra(P:Program)(t:TypeId):Option (List (Nat×Nat)):=match P.underlying t with
 |some (.struct a)=>a.toList.mapM λf=>(P.info? f.type).map λi=>(f.offset,i.size)
 |some (.array m e)=>(P.info? e).map λi=>(range m).map λj=>(j*i.size,i.size)
 |_=>none
def jth{t:Wap}{us:Wam Wan}{l:Wam (Nat×Nat)}(hz:zrf P t=some us)(b:zra P t=some l):jrd P t=some (us.map .u,l):=by obtain⟨z,a,rfl⟩:=wct.1 hz;unfold jrd;rw[a];simp only;unfold zra at b;split at b;{grind};{simp_all};grind
def okPs(G:EG)(ps:List (Nat×TS)):Bool:=ps.all λp=>okT G p.2
def idsPs(ps:List (Nat×TS)):List Nat:=ps.flatMap λp=>zl2 p.2
def jo1(xs:Wam TS):(zeh true xs).den=.agg (qb xs):=by unfold zeh;simp only;split;{rename_i x;split;{rename_i a;simp[qb,wc1];exact zgn a};rfl};rfl
def aggA(a:Bool)(xs:List TS):TS:=match a with
 |true=>zeh true xs
 |false => .agg xs
def jqm(a:Bool)(xs:Wam TS):(aggA a xs).den=.agg (qb xs):=by cases a;{simp[aggA,TS.den]};.exact jo1 xs
def sBld(zt:ZT)(a:Bool)(places:Option (List (Nat×Nat)))(t:TypeId)(G:EG)(ps:List (Nat×TS)):Option SR:=match zt t with
 |none=>none
 |some b=>match places with
  |none=>none
  |some l=>match okPs G ps with
   |true=>match jbm l b ps with
    |some c=>some (.now (aggA a c) (idsPs ps))
    |none=>none
   |false=>none
def jt7{zt:ZT}{v:Bool}(s:zh8 P zt){t:Wap}{a:Array (Nat×War)}{q:SR}(w:o.op=.build t a)(h:sBld zt v (zra P t) t G (a.toList.map λx=>(x.1,evE E x.2))=some q):SOk P o E G q:=by
 have k:∀x∈a.toList,x.2∈o.op.operands:=λx z=>by{rw[w];simp[Op.operands,List.mem_toArray,wc6];grind};unfold sBld at h;split at h<;>try (cases h;done)
 rename_i D m;split at h<;>try (cases h;done)
 rename_i l A;split at h<;>try (cases h;done)
 rename_i f;split at h<;>cases h;rename_i I n;obtain⟨us,i,C,j⟩:=s t D m;refine SOk.now λW F H b=>?_;have c:∀p∈(a.toList.map λx=>(x.1,evE E x.2)),okC H p.2.den=true:=λp y=>by{exact zf2 (wdu.1 f p y) λid d=>b.h id (wdm.2 ⟨p,y,d⟩)};obtain⟨r,B,g⟩:=z9y _ _ _ _ n j c;refine PQ.ref (qm ?_) (by rw[jqm];exact Ref.agg g);unfold Yp;rw[w];simp only;have e:(a.toList.map λx=>(x.1,evP F x.2))=(a.toList.map λx=>(x.1,evE E x.2)).map λp=>(p.1,p.2.den):=by{rw[wd3];exact wec λx z=>by simp[Function.comp];rw[b.ev (k x z)]};rw[e];unfold z7b;rw[jth i A];simp only;have hz:(us.map PV.u).all (V4 H)=true:=by{rw[List.all_map];trivial};grind
def juf{f:Fn}{a b:Array War}(d:o.op=.makeFunc f a b):SOk P o E G (.now (.fn f (a.toList.map (evE E)) (b.toList.map (evE E))) []):=SOk.now λW F H c=>by refine qm ?_;unfold Yp;rw[d];simp[TS.den];have g:a.toList.map (evP F)=zq (a.toList.map (evE E)):=by{rw[zgz,wd3];exact wec λx e=>c.ev (by rw[d];simp[Op.operands,Array.mem_append];grind)};have h:b.toList.map (evP F)=zq (b.toList.map (evE E)):=by{rw[zgz,wd3];exact wec λx e=>c.ev (by rw[d];simp[Op.operands,Array.mem_append];grind)};grind
def jqz(G:EG)(x:TS):Option SR:=match x with
 |.rd d=>some (.now (.rd d) [])
 |.fn (.func g) a b=>some (.now (.fn (.func g) a b) [])
 |.pt id e c=>match z3l G id c with
  |true=>some (.now (.pt id e c) [id])
  |false=>none
 |.v ⟨.ref t,f⟩=>some (.dat t.D f (λy=> .rd ⟨t,y⟩) [])
 |_=>none
def jnd{x:War}{q:SR}(j:o.op=.nilCheck x)(h:jqz G (evE E x)=some q):SOk P o E G q:=by have f:x∈o.op.operands:=Wak j;have step:∀{rd W F H}{p r:PV},(evE E x).den=p->jsz H p=some r->Agr o E G rd F H->PQ P W o F H r:=λ{rd W F H p r}k s c=>by{refine qm ?_;unfold Yp;rw[j];simp only;rw[c.ev f,k];omega};unfold jqz at h;split at h;{rename_i d e;cases h;exact SOk.now λW F H c=>step (by rw[e]) Wab c};{rename_i g a b e;cases h;exact SOk.now λW F H c=>step (by rw[e]) Wab c};{rename_i id n i e;split at h<;>cases h;rename_i l;refine SOk.now λW F H c=>step (by rw[e]) ?_ c;simp only[TS.den,jsz];cases u:qd H (.o id) i with|none=>{have:=zjg l (c.h id V);grind}|some cs=>rfl};{rename_i t v e;cases h;refine SOk.dat λy m W F H c=>?_;subst m;refine step (by rw[e]) ?_ c;rfl};grind
def zx9{α:Type}(l:List α):Option Bool:=match l with
 |[]=>none
 |_=>some false
def zqi(op:BinOp)(b:Bool):Option Bool:=match op with
 |.eql=>some b
 |.neq=>some (!b)
 |_=>none
def jr1(bd:Bool)(op:BinOp)(G:EG)(x:TS):Option SR:=match x with
 |.rd _=>match zqi op false with
  |some b=>some (.now (.c (.bool b)) [])
  |none=>none
 |.c (.pointer none)=>match zqi op true with
  |some b=>some (.now (.c (.bool b)) [])
  |none=>none
 |.pt id _ a=>match z3l G id a with
  |true=>match zqi op false with
   |some b=>some (.now (.c (.bool b)) [id])
   |none=>none
  |false=>none
 |.v ⟨.ref _,p⟩=>match zqi op p.isNone with
  |some b=>some (.vx bd .bool b)
  |none=>none
 |_=>none
def jqs(op:BinOp)(x:TS):Option SR:=match x with
 |.c (.slice none _ _)=>match zqi op true with
  |some b=>some (.now (.c (.bool b)) [])
  |none=>none
 |.v ⟨.sl _,l⟩=>match op with
  |.eql=>some (.vo .bool (zx9 l))
  |.neq=>some (.vo .bool ((zx9 l).map λb=>!b))
  |_=>none
 |_=>none
def jhi{op:BinOp}{b c:Bool}(h:zqi op b=some c):z0e op (some b)=some (.u (.bool c)):=by unfold zqi at h;split at h<;>cases h<;>rfl
def jqk{bd:Bool}{op:BinOp}{t v:Nat}{x:War}{q:SR}(k:o.op=.binOp op t x (.const (.pointer none)) v)(s:jhc P t=true)(h:jr1 bd op G (evE E x)=some q):SOk P o E G q:=by
 have i:x∈o.op.operands:=Wak k;have step:∀{rd W F H}{p:PV}{b c:Bool},(evE E x).den=p->zrz H p=some b->zqi op b=some c->Agr o E G rd F H->PQ P W o F H (.u (.bool c)):=λ{rd W F H p b c}l m n a=>by{refine qm ?_;unfold Yp;rw[k];simp only;unfold jkn;simp only;rw[if_pos s,a.ev i,l,m];exact jhi n};unfold jr1 at h;split at h;.rename_i d f;split at h<;>cases h;rename_i b e;exact SOk.now λW F H a=>(step (p :=.rp (jp d.t d.x)) (by rw[f];rfl) rfl e a:PQ P W o F H (.u (.bool b)))
 .rename_i f;split at h<;>cases h;rename_i b e;exact SOk.now λW F H a=>(step (p :=.u (.pointer none)) (by rw[f];rfl) rfl e a:PQ P W o F H (.u (.bool b)))
 .rename_i id j g f;(split at h<;>try (cases h;done));rename_i r;split at h<;>cases h;rename_i b e;refine SOk.now λW F H a=>(step (p :=.pp (.o id) j g) (by rw[f];rfl) ?_ e a:PQ P W o F H (.u (.bool b)))
  simp only[zrz];cases z:qd H (.o id) g with|none=>{have:=zjg r (a.h id V);grind}|some cs=>rfl
 {rename_i w p f;split at h<;>cases h;rename_i b e;refine SOk.vx λW F H a=>?_;cases p with|none=>{exact step (p :=.u (.pointer none)) (by rw[f];rfl) rfl e a}|some y=>exact step (p :=.rp (jp w y)) (by rw[f];rfl) rfl e a};grind
def jn6{op:BinOp}{t w:Nat}{x:War}{q:SR}(i:o.op=.binOp op t x (.const (.slice none 0 0)) w)(v:zcu P t=true)(h:jqs op (evE E x)=some q):SOk P o E G q:=by
 have g:x∈o.op.operands:=Wak i;have step:∀{rd W F H}{p:PV}{b c:Bool},(evE E x).den=p->z1i H p=some b->zqi op b=some c->Agr o E G rd F H->PQ P W o F H (.u (.bool c)):=λ{rd W F H p b c}j k m a=>by{refine qm ?_;unfold Yp;rw[i];simp only;unfold jkn;simp only;rw[if_pos v,a.ev g,j,k];exact jhi m};unfold jqs at h;split at h;.rename_i n c e;split at h<;>cases h;rename_i b s;exact SOk.now λW F H a=>(step (p :=.u (.slice none n c)) (by rw[e];rfl) rfl s a:PQ P W o F H (.u (.bool b)))
 {rename_i f l e;split at h<;>cases h;{refine SOk.vo λr d W F H a=>?_;cases l with|nil=>{cases d}|cons y l=>cases d;exact step (p :=.sl (wid f) ((y::l).map (enc f))) (by rw[e];rfl) rfl rfl a};.refine SOk.vo λr d W F H a=>?_;cases l with|nil=>{cases d}|cons y l=>cases d;exact step (p :=.sl (wid f) ((y::l).map (enc f))) (by rw[e];rfl) rfl rfl a};grind
def juj{d:Nat}{t:Wap}{A B:Array Wap}{C:Bool}(a:P.underlying t=some (.func A B C))(f:Fn)(b vb:Array Wan)(w:Wao):(Op.equalIn (d+1) t (.func f b vb) .nilFunc).run P w=.ok false w:=by simp[Op.equalIn,run_underlying a]
def jvm{d:Nat}{t:Wap}{A B:Array Wap}{C:Bool}(a:P.underlying t=some (.func A B C))(w:Wao):(Op.equalIn (d+1) t .nilFunc .nilFunc).run P w=.ok true w:=by simp[Op.equalIn,run_underlying a]
def jak{op:BinOp}{t:Wap}{u v:Wan}{b c:Bool}{w:Wao}(g:∀x y,(eqGuard op t x y u v).run P w=.ok () w)(f:(Op.equal t u v).run P w=.ok b w)(a:zqi op b=some c)(d:binOp .eql t u v=(do pure (.bool (<- Op.equal t u v))))(e:binOp .neq t u v=(do pure (.bool !(<- Op.equal t u v))))(x y:War):
  (do eqGuard op t x y u v;binOp op t u v:Sem Wan).run P w=.ok (.bool c) w:=by
 unfold zqi at a;split at a<;>cases a
 ·simp_all
 simp_all
def wb1{op:BinOp}{t s:Wap}{x:War}{b c:Bool}(p:o.op=.binOp op t x (.const .nilFunc) s){A B:Array Wap}{C:Bool}(m:P.underlying t=some (.func A B C))(q:(∃f a d,evP F x=.fn f a d/\b=false)\/(evP F x=.u .nilFunc/\b=true))(l:zqi op b=some c):PQ P W o F H (.u (.bool c)):=waf λV g w z n=>by
 have h:=n x (by rw[p];simp[Op.operands]);have r:(b=false/\∃f i vb,g.eval x=.func f i vb)\/(b=true/\g.eval x=.nilFunc):=by
  rcases q with⟨f,a,d,e,rfl⟩|⟨e,rfl⟩
  {rw[e]at h;generalize g.eval x=v at h;cases h with|fn _ _ _ i vb=>simp};.rw[e]at h;generalize g.eval x=v at h;cases h;simp
 refine⟨.bool c,?_,.u _⟩;have D:g.eval (.const .nilFunc)=.nilFunc:=rfl;have j:execOp g.eval o=Next.value <$> (do eqGuard op t x (.const .nilFunc) (g.eval x) .nilFunc;binOp op t (g.eval x) .nilFunc:Sem Wan):=by{unfold execOp;simp_all};rw[j];have k:(do eqGuard op t x (.const .nilFunc) (g.eval x) .nilFunc;binOp op t (g.eval x) .nilFunc:Sem Wan).run P w=.ok (.bool c) w:=by
  rcases r with⟨rfl,f,i,vb,e⟩|⟨rfl,e⟩
  {rw[e];exact jak (λx y=>by cases op<;>rfl) (juj m f i vb w) l rfl rfl x _};.rw[e];exact jak (λx y=>by cases op<;>rfl) (jvm m w) l rfl rfl x _
 rw[Sem.run_map,k];rfl
end
structure BRef(bd bd':PBody):Prop where
 is:∀w m v vs,bd.Is w m v vs->bd'.Is w m v vs
 cs:RefL bd.cs bd'.cs
def BRef.row{t:Wap}{k n:Nat}{cs ds:Wam PV}(h:RefL cs ds):BRef (.row t k n cs) (.row t k n ds):=⟨λ_ _ _ _ h=>h,h⟩
def BRef.box{t:Wap}{cs ds:Wam PV}(h:RefL cs ds):BRef (.box t cs) (.box t ds):=⟨λ_ _ _ _ h=>h,h⟩
section
variable{P:Program}{o:Oper}{E:EF}{G:EG}{rd:List Nat}{F:PFrame}{H:PHeap}{W:Env}{n:Nat}
def wb0{V:Nm->Wan}{a:Act}{w:Wao}{id:Nm}{ver:Nat}{bd bd':PBody}(l:BRef bd bd')(m:Rel P W n F (H.set id ⟨ver,some bd⟩) V a w):Rel P W n F (H.set id ⟨ver,some bd'⟩) V a w:=by
 have k:=m.heap;have u:∀i,((H.set id ⟨ver,some bd⟩) i).ver=((H.set id ⟨ver,some bd'⟩) i).ver/\((H.set id ⟨ver,some bd⟩) i).body.isSome=((H.set id ⟨ver,some bd'⟩) i).body.isSome:=λi=>by{unfold PHeap.set;grind};have o:∀{p v},Rp W.Z (H.set id ⟨ver,some bd⟩) V w p v->Rp W.Z (H.set id ⟨ver,some bd'⟩) V w p v:=λh=>
  h.mono (λb l q=>⟨λhz=>by
   rcases hz with hz|⟨i,c,d⟩
   ·exact l (.inl hz)
   ·exact l (.inr ⟨i,X,d⟩),q,rfl⟩) (wcs _) (λi=>X) (λi ver _ c d=>⟨X,X,rfl⟩)
 refine⟨⟨k.below,λi s f=>?_,λi=>o (k.ghost i),λi j g c d=>k.apart i j g X X,k.zlt,λi b c=>k.nz i b X⟩,m.size,m.defers,λt=>o (m.slot t)⟩;by_cases e:i=id;{subst e;simp[PHeap.set,if_true,wdn]at f;subst f;obtain⟨r,c,d⟩:=k.body i bd (by simp[PHeap.set]);exact⟨r,l.is _ _ _ _ c,l.cs.rpL (d.mono λp v=>o)⟩};.obtain⟨r,c,d⟩:=k.body i s (by simpa [PHeap.set,e]using f);exact⟨r,c,d.mono λp v=>o⟩
def waq{g f:PV}{id:Nm}{ver:Nat}{bd bd':PBody}(l:BRef bd bd')(m:Ref g f)(s:Zc n o)(h:PE P W n o F H (λp b=>p=g/\b=H.set id ⟨ver,some bd⟩)):PE P W n o F H (λp b=>p=f/\b=H.set id ⟨ver,some bd'⟩):=λV a w q=>
 Oper.wp_mono (λr u⟨p,b,i,⟨j,k⟩,c⟩=>by
  subst j;subst k;have:=wb0 l c;refine⟨f,_,i,⟨rfl,rfl⟩,this.heap,this.size,this.defers,λt=>?_⟩;have d:=this.slot t;unfold PFrame.put at d⊢;split
  ·rename_i e;rw[if_pos e]at d;exact m _ _ _ _ _ d
  grind) (h V a w q)
def wbq{F':Wav}{p:PV}(h:PQ P W o F' H p)(d:∀t,Operand.tmp t∈o.op.operands->Ref (F t) (F' t)):PQ P W o F H p:=λV a w c e=>
 h V a w c λt b=>d t b _ _ _ _ _ (e t b)
def z3a(ty:Ty)(E:EF)(F:PFrame):PFrame:=λt=>match toT ty (E t)with
 |some v=>enc ty v
 |none=>F t
def jai{ty:Ty}(a:Agr o E G rd F H):∀t,Operand.tmp t∈o.op.operands->Ref (F t) (z3a ty E F t):=λt b=>by unfold z3a;split;{rename_i v c;rw[a.f t b];exact(zb7 _ _ _ c).2};.exact Ref.refl _
def z5w(ty:Ty)(E:EF):Operand->Option ty.D
 |.tmp t=>toT ty (E t)
 |_=>none
def zqt{ty:Ty}{x:War}{v:ty.D}(h:z5w ty E x=some v):evP (z3a ty E F) x=enc ty v:=by unfold z5w at h;split at h;{simp[evP,z3a,h]};grind
def zwm:(t:Ty)->t.D->Option (List Value)
 |.int k,z=>some [.int k z]
 |.bool,b=>some [.bool b]
 |.str,s=>some [.string ⟨⟨s⟩⟩]
 |.nil,_=>some []
 |.cons a r,x=>match zwm a x.1 with
  |none=>none
  |some l=>match zwm r x.2 with
   |none=>none
   |some m=>some (l++m)
 |.st r,x=>zwm r x
 |_,_=>none
def zpk:∀t x l,zwm t x=some l->jp t x=l.map .u
 |.int _,_,l,h=>by simp[zwm]at h;cases h;rfl
 |.bool,_,l,h=>by simp[zwm]at h;cases h;rfl
 |.str,_,l,h=>by simp[zwm]at h;cases h;rfl
 |.nil,_,l,h=>by simp[zwm]at h;cases h;rfl
 |.cons a r,x,l,h=>by simp[zwm]at h;(split at h<;>try (cases h;done));rename_i d b;split at h<;>cases h;rename_i e c;simp[jp,zpk a _ _ b,zpk r _ _ c,wdb]
 |.st r,x,l,h=>by simp[zwm]at h;simp[jp];exact zpk r x l h
 |.sl _,_,l,h=>by trivial
 |.ref _,_,l,h=>by trivial
 |.arr _ _,_,l,h=>by trivial
 |.tup _,_,l,h=>by trivial
def zyx(l:List Bool):Bool:=l.all λb=>b
def ju0(op:BinOp)(b:Bool):Option Bool:=match op with
 |.eql=>some b
 |.neq=>some (!b)
 |_=>none
mutual
def ctT:TS->Bool
 |.c _=>true
 |.agg a=>ctTs a
 |_=>false
def ctTs:List TS->Bool
 |[]=>true
 |x::r=>ctT x && ctTs r
end
def sEqS(bd:Bool)(es:Array Value->Array Value->Option (List Bool))(d:Bool)(op:BinOp)(r:Ty)(E:EF)(x y:Operand):Option SR:=match d with
 |true=>none
 |false=>yl (z5w (.st r) E x) λa=>yl (z5w (.st r) E y) λb=>yl (zwm (.st r) a) λe=>yl (zwm (.st r) b) λf=>yl (es e.toArray f.toArray) λl=>yl (ju0 op (zyx l)) λc=>match ctT (evE E x) && ctT (evE E y)with
  |true=>some (.now (.c (.bool c)) [])
  |false=>some (.vx bd .bool c)
def zhn(l:Wam Wan):(l.map PV.u).mapM z3t=some l:=by induction l with|nil=>{rfl}|cons v l a=>rw[wc7,List.mapM_cons,a];rfl
def juv{bd:Bool}{op:BinOp}{r:Ty}{t N:Nat}{x y:War}{q:SR}{d:Tmp}(g:o.op=.binOp op t x y N)(h:sEqS bd (eqS P t) (P.eqGuardType P.depth t) op r E x y=some q):SOk P o E G q:=by unfold sEqS at h;split at h;{cases h};rename_i A;obtain⟨a,I,h⟩:=jz h;obtain⟨b,L,h⟩:=jz h;obtain⟨i,n,h⟩:=jz h;obtain⟨j,p,h⟩:=jz h;obtain⟨l,M,h⟩:=jz h;obtain⟨c,m,h⟩:=jz h;suffices f:∀W F H,Agr o E G [] F H->PQ P W o F H (enc .bool c) by{split at h<;>cases h;{exact SOk.now λW F H e=>by simp[TS.den];exact f W F H e};.exact SOk.vx f};intro W F H e;refine wbq (F':=z3a (.st r) E F) (waf λV O w R B=>?_) (jai e);have C:evP (z3a (.st r) E F) x=.agg (i.map .u):=by{rw[zqt I];unfold enc mkV;simp[Y9];rw[zpk _ _ _ n]};have D:evP (z3a (.st r) E F) y=.agg (j.map .u):=by{rw[zqt L];unfold enc mkV;simp[Y9];rw[zpk _ _ _ p]};have s:=(B x (by rw[g];simp[Op.operands])).val2 (by rw[C];simp only[PV.val2,zhn];rfl);have v:=(B y (by rw[g];simp[Op.operands])).val2 (by rw[D];simp only[PV.val2,zhn];rfl);have z:(Op.equal t (.agg i.toArray) (.agg j.toArray)).run P w=.ok (l.all id) w:=jhe M w 9998;have Q:zyx l=l.all id:=rfl;unfold ju0 at m;split at m<;>cases m;{have k:=run_eqGuard_agg (w:=w) .eql t x y i.toArray j.toArray A;exact⟨_,by simp[execOp,g,s,v];simp[Sem.run_bind,k,binOp,z];rfl,.u _⟩};.have k:=run_eqGuard_agg (w:=w) .neq t x y i.toArray j.toArray A;exact⟨_,by simp[execOp,g,s,v];simp[Sem.run_bind,k,binOp,z];rfl,.u _⟩
def sEqA(bd:Bool)(d:Bool)(op:BinOp)(n:Nat)(k:IntKind)(E:EF)(x y:Operand):Option SR:=match d with
 |true=>none
 |false=>yl (z5w (.arr n (.int k)) E x) λa=>yl (z5w (.arr n (.int k)) E y) λb=>yl (ju0 op (a.l == b.l)) λc=>some (.vx bd .bool c)
def zz4(k:Was):∀l:Wam Int,l.flatMap (jp (.int k))=(l.map (Value.int k)).map .u
 |[]=>rfl
 |a::l=>by rw[wdj,zz4 k l];rfl
def jvk{bd:Bool}{op:BinOp}{e n:Nat}{k:Was}{t L:Nat}{x y:War}{q:SR}(d:o.op=.binOp op t x y L)(I:P.underlying t=some (.array n e))(A:P.underlying e=some (.int k))(D:asz P e=some (false,1))(h:sEqA bd (P.eqGuardType P.depth t) op n k E x y=some q):SOk P o E G q:=by
 unfold sEqA at h;split at h;{cases h};rename_i r;obtain⟨a,B,h⟩:=jz h;obtain⟨b,C,h⟩:=jz h;obtain⟨c,j,h⟩:=jz h;cases h;refine SOk.vx λW F H i=>(wbq (F':=z3a (.arr n (.int k)) E F) (waf λV M w N s=>?_) (jai i))
 have v:evP (z3a (.arr n (.int k)) E F) x=.agg ((a.l.map (Value.int k)).map .u):=by{rw[zqt B];unfold enc mkV;simp only[Y9];show PV.agg (List.flatMap (jp (.int k)) _)=_;rw[zz4]};have z:evP (z3a (.arr n (.int k)) E F) y=.agg ((b.l.map (Value.int k)).map .u):=by{rw[zqt C];unfold enc mkV;simp only[Y9];show PV.agg (List.flatMap (jp (.int k)) _)=_;rw[zz4]};have m:=(s x (by rw[d];simp[Op.operands])).val2 (by rw[v];simp only[PV.val2,zhn];rfl);have p:=(s y (by rw[d];simp[Op.operands])).val2 (by rw[z];simp only[PV.val2,zhn];rfl);have g:=jae I A (λw=>(zgo D w).2) ⟨a.l,a.h⟩ ⟨b.l,b.h⟩ w;simp only at g;unfold ju0 at j;split at j<;>cases j;{have f:=run_eqGuard_agg (w:=w) .eql t x y (a.l.map (Value.int k)).toArray (b.l.map (Value.int k)).toArray r;exact⟨_,by simp[execOp,d,m,p];simp[Sem.run_bind,f,binOp,g],.u _⟩};.have f:=run_eqGuard_agg (w:=w) .neq t x y (a.l.map (Value.int k)).toArray (b.l.map (Value.int k)).toArray r;exact⟨_,by simp[execOp,d,m,p];simp[Sem.run_bind,f,binOp,g],.u _⟩
def jsi{t:Array Wap}{ty:Wap}{k:Was}{a b:Int}:z7f P .min t ty [.u (.int k a),.u (.int k b)]=some (.u (.int k (min a b))):=by simp[z7f,PV.val2,Builtin.min_,Builtin.min2,vm,ofV];omega
def jns{t:Array Wap}{ty:Wap}{k:Was}{a b:Int}:z7f P .max t ty [.u (.int k a),.u (.int k b)]=some (.u (.int k (max a b))):=by simp[z7f,PV.val2,Builtin.max_,Builtin.max2,vm,ofV];omega
def jv1(bd:Bool)(mx:Bool)(x y:TS):Option SR:=match x with
 |.v ⟨.int k,a⟩=>yl (Ys (.int k) y) λb=>some (.vx bd (.int k) (cond mx (max a b) (min a b)))
 |.c (.int k a)=>yl (Ys (.int k) y) λb=>some (.vx bd (.int k) (cond mx (max a b) (min a b)))
 |_=>none
def jhr{bd mx:Bool}{x y:War}{ts:Array Wap}{q:SR}(i:o.op=.call { callee :=.builtin (cond mx .max .min),args:=#[x,y],argTypes:=ts })(h:jv1 bd mx (evE E x) (evE E y)=some q):SOk P o E G q:=by have l:x∈o.op.operands:=by{rw[i];simp[Op.operands,Call.operands]};have m:y∈o.op.operands:=by{rw[i];simp[Op.operands,Call.operands]};have d:∀{k:Was}{a b:Int},(evE E x).den=.u (.int k a)->Ys (.int k) (evE E y)=some b->SOk P o E G (.vx bd (.int k) (cond mx (max a b) (min a b))):=λ{k a b}n p=>by{refine SOk.vx λW F H c=>qm ?_;unfold Yp;rw[i];have e:=c.ev l;have f:=c.ev m;rw[n]at e;rw[zx p]at f;cases mx with|true=>{show z7f P .max ts o.type [evP F x,evP F y]=_;rw[e,f];exact jns}|false=>show z7f P .min ts o.type [evP F x,evP F y]=_;rw[e,f];exact jsi};unfold jv1 at h;split at h;{rename_i k a j;obtain⟨b,g,h⟩:=jz h;cases h;exact d (by rw[j];rfl) g};{rename_i k a j;obtain⟨b,g,h⟩:=jz h;cases h;exact d (by rw[j];rfl) g};grind
end
def SR.mem(s:TS)(id:Nat)(x:GB)(rd:List Nat):SR:=⟨Unit,true,some (),λ_=>s,λ_=>[(id,x)],rd,[id],[]⟩
def SR.memO(α:Type)(op:Option α)(s:TS)(id:Nat)(x:α->GB)(rd:List Nat):SR:=⟨α,false,op,λ_=>s,λy=>[(id,x y)],rd,[id],[]⟩
section
variable{P:Program}{o:Oper}{E:EF}{G:EG}{rd:List Nat}{F:PFrame}{H:PHeap}{W:Env}{n:Nat}
def SOk.mem{s:TS}{id:Nat}{x:GB}(h:∀W n F H,Zc n o->Agr o E G (id::rd) F H->PE P W n o F H (λp c=>p=s.den/\c=H.set (.o id) (vz id x))):SOk P o E G (.mem s id x rd):=
 ⟨λ_=>rfl,λy g W n F H f e d b=>h W n F H e ⟨d,λi a=>by
  rcases wda.1 a with rfl|a
  ·exact b i (.inr (by simp[SR.mem]))
  ·exact b i (.inl a)⟩⟩
def SOk.memO{α:Type}{op:Wal α}{s:TS}{id:Nat}{x:α->GB}(h:∀y,op=some y->∀W n F H,Zc n o->Agr o E G (id::rd) F H->PE P W n o F H (λp c=>p=s.den/\c=H.set (.o id) (vz id (x y)))):SOk P o E G (.memO α op s id x rd):=
 ⟨λ_=>rfl,λy g W n F H f e d b=>h y g W n F H e ⟨d,λi a=>by
  rcases wda.1 a with rfl|a
  ·exact b i (.inr (by simp[SR.memO]))
  ·exact b i (.inl a)⟩⟩
def nv(G:EG)(id:Nat):Nat:=(G id).ver+1
def zuj{id:Nat}(a:Agr o E G (id::rd) F H):(H (.o id)).ver+1=nv G id:=by rw[a.h id V];rfl
def Jq(o:Oper):Bool:=match o.dst with
 |some _=>true
 |none=>false
def yk{o:Oper}(h:Jq o=true):∃d,o.dst=some d:=by unfold Jq at h;grind
def jek(zt:ZT)(t:TypeId)(o:Oper)(G:EG)(id:Nat):Option SR:=match Jq o with
 |true=>match zt t with
  |some a=>some (.mem (.pt id 0 (nv G id)) id ⟨nv G id,some (.box t a)⟩ [])
  |none=>none
 |false=>none
def jj3{zt:ZT}(j:zh8 P zt){t:Wap}{id:Nat}{q:SR}(k:o.op=.alloc t)(h:jek zt t o G id=some q):SOk P o E G q:=by unfold jek at h;(split at h<;>try (cases h;done));rename_i b;obtain⟨d,b⟩:=yk b;split at h<;>cases h;rename_i l i;obtain⟨us,e,f,g⟩:=j t l i;refine SOk.mem λW n F H a c=>?_;refine waq (.box g) (by simp[TS.den];exact Ref.refl _) a (PE.alloc (id :=.o id) k b (a d b) e f ?_);rw[zuj c];simp
def sBox(t:TypeId)(o:Oper)(G:EG)(id:Nat)(x:TS):Option SR:=match Jq o && okT G x with
 |true=>some (.mem (.pt id 0 (nv G id)) id ⟨nv G id,some (.box t [x])⟩ (zl2 x))
 |false=>none
def jua{t:Wap}{x:War}{id:Nat}{q:SR}(j:o.op=.box t x)(h:sBox t o G id (evE E x)=some q):SOk P o E G q:=by have f:x∈o.op.operands:=Wak j;unfold sBox at h;split at h<;>cases h;rename_i c;simp[wco]at c;obtain⟨d,g⟩:=yk c.1;refine SOk.mem λW n F H e a=>?_;have b:=a.ev f;refine PE.box (id :=.o id) j g (e d g) (by rw[b];exact zf2 c.2 λi k=>a.h i X) ?_;rw[zuj a,b];refine⟨Wab,?_⟩;simp[vz,wc5,BD.den,qb,wc1]
def yy{α:Type}(l:List α)(i:Int)(y:α):Option (List α):=match decide (0<=i)with
 |true=>match decide (i.toNat<l.length)with
  |true=>some (l.set i.toNat y)
  |false=>none
 |false=>none
def jtz:List TS->Nat->TS->Option (List TS)
 |[],_,_=>none
 |x::b,a,s=>match Nat.blt a (Zy x)with
  |true=>some (s::b)
  |false=>match jtz b (a-Zy x) s with
   |some c=>some (x::c)
   |none=>none
def zp8{n:Nat}{α:Type}(a:Arr n α)(i:Int)(y:α):Option (Arr n α):=match decide (0<=i)with
 |true=>match decide (i.toNat<n)with
  |true=>some ⟨a.l.set i.toNat y,by rw[wd5,a.h]⟩
  |false=>none
 |false=>none
def putE{β:Type}(t:Ty)(off k:Nat)(y:TS)(e:t.D)(f:t.D->Option β):Option β:=match z1y off k y [.v ⟨t,e⟩]with
 |some a=>match toT t (.agg a)with
  |some v=>f v
  |none=>none
 |none=>none
def sSto(ag:Bool)(k:Nat)(G:EG)(x y:TS):Option SR:=match okT G y with
 |false=>none
 |true=>match x with
  |.pt id f d=>match Nat.beq (G id).ver d with
   |true=>match (G id).b with
    |some (.box c g)=>match z1y f k y g with
     |some h=>some (.mem UND id ⟨d,some (.box c h)⟩ (zl2 y))
     |none=>none
    |some (.rowx c w g)=>match z1y f k y g with
     |some h=>match Nat.beq h.length g.length with
      |true=>some (.mem UND id ⟨d,some (.rowx c w h)⟩ (zl2 y))
      |false=>none
     |none=>none
    |_=>none
   |false=>none
  |.elt id w i f d=>match Nat.beq (G id).ver d with
   |true=>match (G id).b with
    |some (.row c t l)=>match Nat.beq w (wid t) && (Nat.beq f 0 && Nat.beq k w)with
     |true=>match toT t y with
      |some v=>some (.memO (List t.D) (yy l i v) UND id (λm=>⟨d,some (.row c t m)⟩) (zl2 y))
      |none=>none
     |false=>match Nat.beq w (wid t)with
      |true=>some (.memO (List t.D) (ja (atL l i) λe=>putE t f k y e λv=>yy l i v) UND id (λm=>⟨d,some (.row c t m)⟩) (zl2 y))
      |false=>none
    |some (.box c g)=>match zue g f with
     |some (.v ⟨.arr n t,a⟩,j)=>match Nat.beq w (wid t) && (Nat.beq j 0 && Nat.beq k w)with
      |true=>match toT t y with
       |some v=>some (.memO (Arr n t.D) (zp8 a i v) UND id (λo=>⟨d,(jtz g f (.v ⟨.arr n t,o⟩)).map λh=> .box c h⟩) (zl2 y))
       |none=>none
      |false=>none
     |_=>none
    |_=>none
   |false=>none
  |_=>none
def und_den:UND.den=.u undef:=by simp only[UND,TS.den];rfl
theorem zl7{pre mid post ps:List PV}{j:Nat}(h:j+ps.length<=mid.length):setMany (pre++mid++post) (pre.length+j) ps=pre++setMany mid j ps++post:=by
 unfold setMany;rw[wc2 pre mid post,List.take_length_add_append,show pre.length+j+ps.length=pre.length+(j+ps.length) by omega,List.drop_length_add_append,List.take_append_of_le_length (by omega),List.drop_append_of_le_length h];simp
def zy2{t:Ty}{l:Wam t.D}{i:Nat}{y:t.D}(h:i<l.length):setMany (l.flatMap (jp t)) (i*wid t) (jp t y)=(l.set i y).flatMap (jp t):=by have d:l=l.take i++l[i]::l.drop (i+1):=V;have a:l.flatMap (jp t)=(l.take i).flatMap (jp t)++jp t l[i]++(l.drop (i+1)).flatMap (jp t):=by{grind};have b:(l.set i y).flatMap (jp t)=(l.take i).flatMap (jp t)++jp t y++(l.drop (i+1)).flatMap (jp t):=by{grind};have c:((l.take i).flatMap (jp t)).length=i*wid t:=by{rw[J4 _ (wid t) _ λx _=>ju t x,wfg];grind};rw[a,b,<- c];have:=zl7 (pre:=(l.take i).flatMap (jp t)) (mid:=jp t l[i]) (post:=(l.drop (i+1)).flatMap (jp t)) (ps:=jp t y) (j:=0) (by rw[ju,ju];omega);simp only[wd9]at this;rw[this];congr 2;unfold setMany;simp only[List.take_zero,web,wd0];rw[wds (by rw[ju,ju];simp),wc1]
def RefL.setMany2{ps qs:Wam PV}(h:RefL ps qs)(cs:Wam PV)(off:Nat):RefL (L.setMany cs off ps) (L.setMany cs off qs):=by unfold L.setMany;rw[h.1];exact RefL.append (RefL.append (RefL.refl _) h) (RefL.refl _)
def jrh{t:Ty}{l:Wam t.D}{i off:Nat}{e v:t.D}{ps:Wam PV}(f:l[i]?=some e)(g:off+ps.length<=wid t)(d:RefL (setMany (jp t e) off ps) (jp t v)):RefL (setMany (l.flatMap (jp t)) (i*wid t+off) ps) ((l.set i v).flatMap (jp t)):=by obtain⟨h,rfl⟩:=wcl.1 f;have j:l=l.take i++l[i]::l.drop (i+1):=V;have a:l.flatMap (jp t)=(l.take i).flatMap (jp t)++jp t l[i]++(l.drop (i+1)).flatMap (jp t):=by{grind};have b:(l.set i v).flatMap (jp t)=(l.take i).flatMap (jp t)++jp t v++(l.drop (i+1)).flatMap (jp t):=by{grind};have c:((l.take i).flatMap (jp t)).length=i*wid t:=by{rw[J4 _ (wid t) _ λx _=>ju t x,wfg];grind};rw[a,b,<- c,zl7 (by rw[ju];omega)];exact RefL.append (RefL.append (RefL.refl _) d) (RefL.refl _)
def zdp{α:Type}{l a:Wam α}{i:Int}{y:α}(h:yy l i y=some a):i.toNat<l.length/\a=l.set i.toNat y:=by unfold yy at h;grind
def jku{n:Nat}{α:Type}{a b:Arr n α}{i:Int}{y:α}(h:zp8 a i y=some b):i.toNat<n/\b.l=a.l.set i.toNat y:=by unfold zp8 at h;grind
def jic:∀{xs:Wam TS}{off:Nat}{p s:TS},zue xs off=some (p,0)->Zy s=Zy p->∃b a post,jtz xs off s=some b/\qb xs=a++p.den.cells++post/\qb b=a++s.den.cells++post/\a.length=off
 |[],off,p,s,h,_=>by trivial
 |x::xs,off,p,s,h,g=>by simp[zue]at h;simp only[jtz];split at h;{rename_i f;cases h;exact⟨s::xs,[],qb xs,X,Wab,Wab,rfl⟩};.rename_i f;obtain⟨b,a,post,i,d,e,j⟩:=jic h g;have:¬off<Zy x:=by{intro c;have:Nat.blt off (Zy x)=true:=by{simpa [Nat.blt_eq]using c};grind};refine⟨x::b,x.den.cells++a,post,X,by simp[qb,d,wc2],by simp[qb,e,wc2],?_⟩;rw[wc4,zj1];omega
def js6{t k:Nat}{ag:Bool}{x y:War}{q:SR}(Y:o.op=.store t x y)(ht:asz P t=some (ag,k))(h:sSto ag k G (evE E x) (evE E y)=some q):SOk P o E G q:=by have I:x∈o.op.operands:=Wak Y;have L:y∈o.op.operands:=Wak Y;unfold sSto at h;split at h;{grind};rename_i C;have ru:∀{W n F H}{id N:Nat}{bd:PBody}{x:GB},(vz id x)=⟨N,some bd⟩->PE P W n o F H (λp H'=>p=.u undef/\H'=H.set (.o id) ⟨N,some bd⟩)->PE P W n o F H (λp H'=>p=UND.den/\H'=H.set (.o id) (vz id x)):=λ{W n F H id N bd x}e c4=>by{rwa [e,und_den]};split at h;{rename_i id R N hx;(split at h<;>try (cases h;done));rename_i O;have O:=wcn O;(split at h<;>try (cases h;done));{rename_i d S z;split at h<;>cases h;rename_i ys M;obtain⟨Z,J,e3⟩:=zhs M;refine SOk.mem λW n F H f b=>ru (bd :=.box d (qb ys)) rfl ?_;have r:=b.h id V;have c:=b.ev L;refine PE.store (bd :=.box d (qb S)) Y f (by rw[b.ev I,hx];rfl) (Q8 r z O) ht (by rw[c];exact zf2 C λi A=>b.h i X) X J (by rw[r];simp[vz,z,BD.den]) ⟨rfl,?_⟩;rw[c,Z];rfl};.rename_i d w S z;(split at h<;>try (cases h;done));rename_i ys M;split at h<;>cases h;rename_i B;have B:=wcn B;obtain⟨Z,J,e3⟩:=zhs M;refine SOk.mem λW n F H f b=>ru (bd :=.row d w ys.length (qb ys)) rfl ?_;have r:=b.h id V;have c:=b.ev L;refine PE.store (bd :=.row d w S.length (qb S)) Y f (by rw[b.ev I,hx];rfl) (Qo r z rfl O) ht (by rw[c];exact zf2 C λi A=>b.h i X) X J (by rw[r];simp[vz,z,BD.den]) ⟨rfl,?_⟩;rw[c,Z,B];rfl};{rename_i id w i R N hx;(split at h<;>try (cases h;done));rename_i O;have O:=wcn O;(split at h<;>try (cases h;done));{rename_i d ty l z;split at h;{rename_i Q;simp only[wco]at Q;have T:=wcn Q.1;have eo:=wcn Q.2.1;have ek:=wcn Q.2.2;split at h<;>cases h;rename_i v D;subst eo;refine SOk.memO λl' g W n F H f b=>?_;obtain⟨A,rfl⟩:=zdp g;have r:=b.h id V;have c:=b.ev L;have hT:=(zb7 _ _ _ D).1;have j:(l.flatMap (jp ty)).length=l.length*wid ty:=J4 _ _ _ λx _=>ju ty x;have b2:(evE E y).den.cells.length=k:=by{rw[hT.1,ju,ek,T]};refine waq (bd' :=.row d (wid ty) (l.set i.toNat v).length ((l.set i.toNat v).flatMap (jp ty))) (by rw[<- zy2 A,wd5];exact .row (hT.setMany2 _ _)) (by rw[und_den];exact Ref.refl _) f ?_;refine PE.store (bd :=.row d (wid ty) l.length (l.flatMap (jp ty))) Y f (by rw[b.ev I,hx];rfl) (Qo r z rfl O) ht (by rw[c];exact zf2 C λi A=>b.h i X) X ?_ (by rw[r];simp[vz,z,BD.den]) ⟨rfl,?_⟩;{rw[j,ek,T,wd9];have:(i.toNat+1)*wid ty<=l.length*wid ty:=weg _ A;grind};.rw[c,wd9,T];rfl};.split at h<;>cases h;rename_i hw;have T:=wcn hw;subst T;refine SOk.memO λl' g W n F H f b=>?_;obtain⟨e,he,g⟩:=qw g;unfold putE at g;(split at g<;>try (cases g;done));rename_i ys M;(split at g<;>try (cases g;done));rename_i v D;obtain⟨A,rfl⟩:=zdp g;have r:=b.h id V;have c:=b.ev L;obtain⟨Z,J,e3⟩:=zhs M;have hT:=(zb7 _ _ _ D).1;have a3:qb [TS.v ⟨ty,e⟩]=jp ty e:=by{simp only[qb,TS.den,enc_cells,wc1]};rw[a3]at Z J;rw[ju]at J;have b1:l[i.toNat]?=some e:=(Zv he).2;have j:(l.flatMap (jp ty)).length=l.length*wid ty:=J4 _ _ _ λx _=>ju ty x;have hR:RefL (setMany (jp ty e) R (evE E y).den.cells) (jp ty v):=by{rw[<- Z];assumption};refine waq (bd' :=.row d (wid ty) (l.set i.toNat v).length ((l.set i.toNat v).flatMap (jp ty))) (by rw[wd5];exact .row (jrh b1 U hR)) (by rw[und_den];exact Ref.refl _) f ?_;refine PE.store (bd :=.row d (wid ty) l.length (l.flatMap (jp ty))) Y f (by rw[b.ev I,hx];rfl) (Qo r z rfl O) ht (by rw[c];exact zf2 C λi A=>b.h i X) X ?_ (by rw[r];simp[vz,z,BD.den]) ⟨rfl,?_⟩;{rw[j];have:(i.toNat+1)*wid ty<=l.length*wid ty:=weg _ A;grind};.rw[c];rfl};.rename_i d S z;(split at h<;>try (cases h;done));rename_i m ty a b6 b0;(split at h<;>try (cases h;done));rename_i Q;simp only[wco]at Q;have T:=wcn Q.1;have eo:=wcn Q.2.1;have ek:=wcn Q.2.2;split at h<;>cases h;rename_i v D;subst eo;refine SOk.memO λa' a8 W n F H f b=>?_;obtain⟨A,a9⟩:=jku a8;obtain⟨ys,b3,post,p1,p2,p3,p4⟩:=jic (s :=.v ⟨.arr m ty,a'⟩) b0 Wab;have r:=b.h id V;have c:=b.ev L;have hT:=(zb7 _ _ _ D).1;have b2:(evE E y).den.cells.length=k:=by{rw[hT.1,ju,ek,T]};simp only[TS.den,enc_cells,jp]at p2 p3;have j:(a.l.flatMap (jp ty)).length=m*wid ty:=by{rw[J4 _ (wid ty) _ λx _=>ju ty x,a.h]};have b5:(i.toNat*wid ty)+wid ty<=m*wid ty:=by{have:(i.toNat+1)*wid ty<=m*wid ty:=weg _ A;grind};have e5:setMany (qb S) (R+i.toNat*wid ty) (evE E y).den.cells=b3++setMany (a.l.flatMap (jp ty)) (i.toNat*wid ty) (evE E y).den.cells++post:=by{rw[p2,<- p4,zl7];omega};rw[p1];refine waq (bd :=.box d (setMany (qb S) (R+i.toNat*wid ty) (evE E y).den.cells)) (.box ?_) (by rw[und_den];exact Ref.refl _) f ?_;{rw[e5,p3,a9,<- zy2 (by rw[a.h];omega)];exact RefL.append (RefL.append (RefL.refl _) (hT.setMany2 _ _)) (RefL.refl _)};refine PE.store (cs:=qb S) (bd :=.box d (qb S)) Y f (by rw[b.ev I,hx];rfl) (Q8 r z O) ht (by rw[c];exact zf2 C λi A=>b.h i X) X ?_ (by rw[r];simp[vz,z,BD.den]) ⟨rfl,?_⟩;{grind};.rw[c,T,Nat.add_comm];rfl};grind
end
def apO{α:Type}(b:Nat)(l m:List α):Option (List α):=match decide (l.length+m.length<=maxLen) && decide ((l.length+m.length)*b<=140737488355328)with
 |true=>some (l++m)
 |false=>none
def za1{α:Type}{b:Nat}{l m r:Wam α}(h:apO b l m=some r):l.length+m.length<=maxLen/\(l.length+m.length)*b<=140737488355328/\r=l++m:=by unfold apO at h;grind
def mkO(b:Nat)(z:Int):Option Nat:=match decide (0<=z) && (decide (z.toNat<=maxLen) && decide (b*z.toNat<=281474976710656))with
 |true=>some z.toNat
 |false=>none
def z90{b:Nat}{z:Int}{m:Nat}(h:mkO b z=some m):z=(m:Int)/\m<=maxLen/\b*m<=281474976710656:=by unfold mkO at h;grind
def jc9(ty:Ty)(G:EG):TS->Option (List ty.D×List Nat)
 |.v d=>match d.as (.sl ty)with
  |some l=>some (l,[])
  |none=>none
 |.own id a=>match Nat.beq (G id).ver a with
  |true=>match (G id).b with
   |some (.row _ t l)=>match Dyn.as ⟨.sl t,l⟩ (.sl ty)with
    |some l=>some (l,[id])
    |none=>none
   |_=>none
  |false=>none
 |.c (.slice none 0 0)=>some ([],[])
 |_=>none
abbrev SE:=Option (TypeId×Nat×Nat×Value)
def tyRow(G:EG):TS->Option Ty
 |.v ⟨.sl t,_⟩=>some t
 |.own id _=>match (G id).b with
  |some (.row _ t _)=>some t
  |_=>none
 |_=>none
def sApp(h:SE)(o:Oper)(G:EG)(a:Nat)(s x:TS):Option SR:=match Jq o with
 |false=>none
 |true=>match h with
  |none=>none
  |some (e,k,b,_)=>match s with
   |.own id d=>match Nat.beq (G id).ver d with
    |true=>match (G id).b with
     |some (.row f ty l)=>match Nat.beq f e && (Nat.beq (wid ty) k && zhz ty)with
      |true=>match jc9 ty G x with
       |some r=>some (.memO (List ty.D) (apO b l r.1) (.own id (d+1)) id (λg=>⟨d+1,some (.row f ty g)⟩) r.2)
       |none=>none
      |false=>none
     |_=>none
    |false=>none
   |.c (.slice none 0 0)=>match tyRow G x with
    |some ty=>match Nat.beq (wid ty) k && zhz ty with
     |true=>match jc9 ty G x with
      |some r=>some (.memO (List ty.D) (apO b [] r.1) (.own a (nv G a)) a (λg=>⟨nv G a,some (.row e ty g)⟩) r.2)
      |none=>none
     |false=>none
    |none=>none
   |_=>none
section
variable{P:Program}{o:Oper}{E:EF}{G:EG}{rd:List Nat}{F:PFrame}{H:PHeap}{W:Env}{n:Nat}
def zms{ty:Ty}{k:Nat}{s:TS}{r:Wam ty.D×Wam Nat}(h:jc9 ty G s=some r)(g:wid ty=k)(e:∀id∈r.2,H (.o id)=vz id (G id)):zxu H k s.den=some (r.1.length,r.1.flatMap (jp ty)):=by unfold jc9 at h;split at h;{split at h<;>cases h;rename_i d l b;have:=wag b;subst this;simp[TS.den];rw[zji];unfold zxu;simp only;rw[if_pos g,wc0,Zl]};{rename_i id j;(split at h<;>try (cases h;done));rename_i c;have c:=wcn c;(split at h<;>try (cases h;done));rename_i i t l f;split at h<;>cases h;rename_i m b;have:=wag b;injection this with e1 a;injection e1 with e1;subst e1;have a:=eq_of_heq a;subst a;simp[TS.den];unfold zxu;simp only;rw[Js (e id V) f rfl c];grind};{cases h;rfl};grind
def zf9{ty:Ty}(a:zhz ty=true)(l:Wam ty.D):∀p∈l.flatMap (jp ty),V4 H p=true:=λp b=>by obtain⟨x,_,c⟩:=wdm.1 b;exact zf7 ty x H a p c
def jt3{t:Nat}{s x:War}{y:Nat}{q:SR}(A:o.op=.call { callee :=.builtin .append,args:=#[s,x],argTypes:=#[t,t] })(h:sApp (yz P t) o G y (evE E s) (evE E x)=some q):SOk P o E G q:=by have p:s∈o.op.operands:=by{rw[A];simp[Op.operands,Call.operands]};have w:x∈o.op.operands:=by{rw[A];simp[Op.operands,Call.operands]};unfold sApp at h;split at h;{grind};rename_i m;obtain⟨d,m⟩:=yk m;split at h;{grind};rename_i e k b z u;split at h;{rename_i id S C;(split at h<;>try (cases h;done));rename_i D;have D:=wcn D;(split at h<;>try (cases h;done));rename_i R ty l M;(split at h<;>try (cases h;done));rename_i c;simp only[wco]at c;have L:=wcn c.1;have j:=wcn c.2.1;subst L;split at h<;>cases h;rename_i r B;refine SOk.memO λQ g W n F H f a=>?_;obtain⟨b1,I,rfl⟩:=za1 g;have v:=zms B j λi N=>a.h i X;refine PE.append (cs:=l.flatMap (jp ty)) A m (f d m) u (by rw[a.ev p,C];rfl) ?_ (by rw[a.ev w];omega) (zf9 c.2.2 _) b1 I ?_;{rw[Js (a.h id V) M rfl D,j]};.refine⟨Wab,?_⟩;simp[vz,wc5,BD.den,j,wc4,wer]};{rename_i C;(split at h<;>try (cases h;done));rename_i ty O;(split at h<;>try (cases h;done));rename_i c;simp only[wco]at c;have j:=wcn c.1;split at h<;>cases h;rename_i r B;refine SOk.memO λQ g W n F H f a=>?_;obtain⟨b1,I,rfl⟩:=za1 g;have v:=zms B j λi N=>a.h i X;refine way (id :=.o y) A m (f d m) u (by rw[a.ev p,C];rfl) (by rw[a.ev w];omega) (zf9 c.2 _) U X ?_;rw[zuj a];refine⟨Wab,?_⟩;simp[vz,wc5,BD.den,j,web]};grind
abbrev ZY:=TypeId->Option Dyn
def zyB(z:Value)(d:Dyn):Bool:=match d,z with
 |⟨.int k,x⟩,.int a y=>ikB k a && decide (x=y)
 |⟨.bool,x⟩,.bool y=>eqb x y
 |⟨.str,[]⟩,.string y=>match y.data.toList with
  |[]=>true
  |_=>false
 |⟨.sl _,[]⟩,.slice none 0 0=>true
 |⟨.ref _,none⟩,.pointer none=>true
 |_,_=>false
def jpr{z:Wan}{d:Dyn}(h:zyB z d=true):Ref (.u z) (enc d.t d.x)/\wid d.t=1/\(enc d.t d.x).cells=[enc d.t d.x]/\z.oneCell'=true:=by unfold zyB at h;split at h;{rename_i k x b y;simp only[wco]at h;rw[z7j h.1,wcj h.2];exact⟨Ref.refl _,rfl,rfl,rfl⟩};{rename_i x y;rw[jeh]at h;have:x=y:=X;subst this;exact⟨Ref.refl _,rfl,rfl,rfl⟩};{rename_i y;(split at h<;>try (cases h;done));rename_i a;have:y=⟨⟨[]⟩⟩:=by{obtain⟨⟨l⟩⟩:=y;grind};subst this;exact⟨Ref.refl _,rfl,rfl,rfl⟩};{exact⟨wbp _ _ _,rfl,rfl,rfl⟩};{exact⟨Ref.refl _,rfl,rfl,rfl⟩};grind
def ztn:Operand->Operand->Bool
 |.tmp a,.tmp b=>Nat.beq a b
 |.const (.int _ a),.const (.int _ b)=>decide (a=b)
 |_,_=>false
def sMk(zy:ZY)(f:SE)(o:Oper)(G:EG)(c:Nat)(same:Bool)(x:TS):Option SR:=match Jq o && same with
 |false=>none
 |true=>match f with
  |none=>none
  |some (e,k,b,z)=>match zy e with
   |none=>none
   |some d=>match Nat.beq k 1 && zyB z d with
    |true=>yl (zgy x) λa=>some (.memO Nat (mkO b a) (.own c (nv G c)) c (λm=>⟨nv G c,some (.row e d.t (replicate m d.x))⟩) [])
    |false=>none
def z3r{x y:War}(h:ztn x y=true)(d:∃k z,evP F x=.u (.int k z)):∃k z,evP F x=.u (.int k z)/\∃c,evP F y=.u (.int c z):=by unfold ztn at h;split at h;{have:=wcn h;grind};{rename_i k a c b;have:=wcj h;subst this;exact⟨k,a,rfl,c,rfl⟩};grind
def jdi{α:Type}{f:α->Wam PV}{x:α}{y:PV}(h:f x=[y]):∀m,(replicate m x).flatMap f=replicate m y
 |0=>rfl
 |m+1=>by rw[List.replicate_succ,wdj,h,jdi h m];rfl
def wbn{p q:PV}(h:Ref p q):∀m,RefL (replicate m p) (replicate m q)
 |0=>RefL.nil
 |m+1=>RefL.cons h (wbn h m)
def sMk_ok{zy:ZY}{t:Nat}{x y:War}{p:Nat}{q:SR}(B:o.op=.makeSlice t x y)(h:sMk zy (yz P t) o G p (ztn x y) (evE E x)=some q):SOk P o E G q:=by have v:x∈o.op.operands:=Wak B;unfold sMk at h;split at h;{grind};rename_i f;simp[wco]at f;obtain⟨d,A⟩:=yk f.1;split at h;{grind};rename_i e k b z l;split at h;{grind};rename_i c M;(split at h<;>try (cases h;done));rename_i r;simp only[wco]at r;have I:=wcn r.1;obtain⟨S,T,r3,Y⟩:=jpr r.2;obtain⟨a,L,h⟩:=jz h;cases h;obtain⟨C,N⟩:=Zp L;refine SOk.memO λm O W n F H j i=>?_;obtain⟨rfl,Q,R⟩:=z90 O;have g:evP F x=.u (.int C m):=by{rw[i.ev v,N]};obtain⟨Z,z1,w,J,D⟩:=z3r f.2 ⟨C,m,g⟩;rw[g]at w;cases w;rw[I]at l;have s:jp c.t c.x=[enc c.t c.x]:=by{rw[<- enc_cells];omega};refine waq (bd' :=.row e (wid c.t) (replicate m c.x).length ((replicate m c.x).flatMap (jp c.t))) (by rw[T,wci,jdi s];exact .row (wbn S m)) (Ref.refl _) j ?_;refine PE.makeSlice (id :=.o p) B A (j d A) l Y g D Q R ?_;rw[zuj i];trivial
inductive LK where
 |told (t:Ty)
 |own (t:Ty)
 |ownx
 |rows (it:TypeId) (t:Ty)
 |que
 |mrows (kt:Ty) (it:TypeId) (t:Ty)
def Ref.sl{k:Nat}{xs ys:Wam PV}(h:xs.length=ys.length)(e:RefL (xs.flatMap PV.cells) (ys.flatMap PV.cells))(n:∀y∈ys,y.cells.length=k):Ref (.sl k xs) (.sl k ys):=λZ H V w v q=>by cases q with|nil k a c=>{have:=wew.1 h.symm;subst this;exact .nil k a c}|sl _ _ b r c g o j hz m s l=>rw[h];refine .sl k ys b r c g n U hz m (λi p f=>?_) λi p f=>?_;{have d:i<(xs.flatMap PV.cells).length:=by{rw[e.1];grind};grind};.have d:i<(xs.flatMap PV.cells).length:=by{rw[e.1];grind};exact e.2 i _ p (wch d) f _ _ _ _ _ (l i _ (wch d))
def jwm:Nat->List Nat->Bool
 |_,[]=>true
 |i,a::l=>Nat.beq a i && jwm (i+1) l
def jis:∀{l:Wam Nat}{i:Nat},jwm i l=true->l=(range l.length).map (i + ·)
 |[],_,_=>rfl
 |a::l,i,h=>by
  simp only[jwm,wco]at h;have b:=wcn h.1;have c:=jis h.2;rw[wdq,List.range_succ_eq_map,wc7,wd3,<- b];congr 1;conv=>lhs;rw[c]
  apply wec;grind
def jit(k:Nat):List TS->Bool
 |[]=>true
 |x::a=>Nat.beq (Zy x) k && jit k a
def jvg(G:EG)(k len:Nat)(ps:List (Nat×TS)):Bool:=jwm 0 (ps.map Prod.fst) && (Nat.beq ps.length len && (jit k (ps.map Prod.snd) && jfm G (ps.map Prod.snd)))
def sLit(lk:Option LK)(c:SE)(o:Oper)(G:EG)(a len:Nat)(ps:List (Nat×TS)):Option SR:=match Jq o with
 |false=>none
 |true=>match lk with
  |none=>none
  |some lk=>match c with
   |none=>none
   |some (e,k,b,z)=>match (z.cells.toList.all Value.oneCell' && (Nat.ble (len*k) 16777216 && Nat.ble len 16777216)) && jvg G k len ps with
    |false=>none
    |true=>match lk with
     |.told ty=>match Nat.beq (wid ty) k with
      |true=>match zjj ty (ps.map Prod.snd)with
       |some l=>some (.now (.v ⟨.sl ty,l⟩) (zlv (ps.map Prod.snd)))
       |none=>none
      |false=>none
     |.own ty=>match Nat.beq (wid ty) k with
      |true=>match zjj ty (ps.map Prod.snd)with
       |some l=>some (.mem (.own a (nv G a)) a ⟨nv G a,some (.row e ty l)⟩ (zlv (ps.map Prod.snd)))
       |none=>none
      |false=>none
     |.ownx=>some (.mem (.own a (nv G a)) a ⟨nv G a,some (.rowx e k (ps.map Prod.snd))⟩ (zlv (ps.map Prod.snd)))
     |.rows _ _=>none
     |.que=>none
     |.mrows _ _ _=>none
def jc4{k:Nat}:∀{xs:Wam TS},jit k xs=true->∀x∈xs,x.den.cells.length=k
 |[],_,x,a=>X
 |y::xs,h,x,a=>by simp[jit,wco]at h;rcases wda.1 a with rfl|a;{rw[zj1];simp_all};.exact jc4 h.2 x a
def z9m:∀{xs:Wam TS},jfm G xs=true->∀x∈xs,okT G x=true
 |[],_,x,a=>X
 |y::xs,h,x,a=>by simp[jfm,wco]at h;rcases wda.1 a with rfl|a;{grind};.exact z9m h.2 x a
def z34:∀{xs:Wam TS}{x:TS},x∈xs->∀id∈zl2 x,id∈zlv xs
 |[],x,a,_,_=>X
 |y::xs,x,a,id,b=>by simp[zlv,wcu];rcases wda.1 a with rfl|a;{grind};.exact .inr (z34 a id b)
def ji7{k len:Nat}{ps:Wam (Nat×TS)}(h:jvg G k len ps=true)(i:∀id∈zlv (ps.map Prod.snd),H (.o id)=vz id (G id)):z1c H k len (ps.map λx=>(x.1,x.2.den))=true:=by unfold jvg at h;simp only[wco]at h;obtain⟨d,a,f,g⟩:=h;have a:=wcn a;unfold z1c;rw[wco,wc9,wdu];constructor;{have:=jis d;rw[wd3];have e:(ps.map ((λx=>x.1) ∘ λx=>(x.1,x.2.den)))=ps.map Prod.fst:=rfl;rw[e,this,wc0,a];simp};.intro p j;obtain⟨x,l,rfl⟩:=wc6.1 j;have c:x.2∈ps.map Prod.snd:=wc6.2 ⟨x,l,rfl⟩;rw[wco,wc9];exact⟨jc4 f _ c,zf2 (z9m g _ c) λid b=>i id (z34 c id b)⟩
def jvj{lk:Wal LK}{t len f:Nat}{a:Array (Nat×War)}{q:SR}(N:o.op=.buildSlice t len a)(h:sLit lk (yz P t) o G f len (a.toList.map λx=>(x.1,evE E x.2))=some q):SOk P o E G q:=by
 have A:∀x∈a.toList,x.2∈o.op.operands:=λx D=>by{rw[N];simp[Op.operands,List.mem_toArray,wc6];grind};have u:∀{rd F H},Agr o E G rd F H->(a.toList.map λx=>(x.1,evP F x.2))=(a.toList.map λx=>(x.1,evE E x.2)).map λp=>(p.1,p.2.den):=λ{rd F H}c=>by{rw[wd3];exact wec λx D=>by simp[Function.comp];rw[c.ev (A x D)]};have j:∀{rd F H},Agr o E G rd F H->(a.toList.map λx=>evP F x.2)=((a.toList.map λx=>(x.1,evE E x.2)).map Prod.snd).map TS.den:=λ{rd F H}c=>by{rw[wd3,wd3];exact wec λx D=>by simp[Function.comp];rw[c.ev (A x D)]};have v:∀O,(O.map TS.den).flatMap PV.cells=qb O:=λO=>by{rw[zr9,List.flatMap_map]};generalize (a.toList.map λx=>(x.1,evE E x.2))=ps at *;unfold sLit at h;split at h;{cases h};rename_i L;obtain⟨d,T⟩:=yk L;split at h;{cases h};split at h;{cases h};rename_i e k b z w;split at h;{cases h};rename_i S;simp only[wco]at S;obtain⟨⟨R,B,C⟩,I⟩:=S;have B:=wej B;have C:=wej C;have C:len<=maxLen:=by{simp[maxLen];omega};have m:ps.length=len:=by{unfold jvg at I;simp_all};have i:∀{W n F H},Zc n o->Agr o E G (f::zlv (ps.map Prod.snd)) F H->PE P W n o F H (λp Q=>p=.ps (.o f) (nv G f)/\Q=H.set (.o f) ⟨nv G f,some (.row e k len (qb (ps.map Prod.snd)))⟩):=λ{W n F H}g c=>by{refine PE.buildSlice (id :=.o f) N T (g d T) w R B C (by rw[u c];exact ji7 I λid s=>c.h id (by simp[s])) ?_;rw[zuj c,j c,v];simp};split at h;{rename_i ty;(split at h<;>try (cases h;done));rename_i r;have r:=wcn r;split at h<;>cases h;rename_i l M;obtain⟨Y,Z⟩:=zjc M;refine SOk.now λW F H c=>?_;refine PQ.ref (PQ.buildSlice N w R B (by rw[u c];exact ji7 I λid s=>c.h id s)) ?_;rw[j c];simp only[TS.den];rw[zji,r];refine Ref.sl X (by rw[v,Zl];omega) λy hy=>?_;obtain⟨x,_,rfl⟩:=wc6.1 hy;rw[enc_cells,ju,r]};{rename_i ty;(split at h<;>try (cases h;done));rename_i r;have r:=wcn r;split at h<;>cases h;rename_i l M;obtain⟨Y,Z⟩:=zjc M;refine SOk.mem λW n F H g c=>?_;refine waq (bd' :=.row e (wid ty) l.length (l.flatMap (jp ty))) (by rw[r,Z,wc0,m];exact .row Y) (by simp[TS.den];exact Ref.refl _) g (i g c)}
 .cases h;refine SOk.mem λW n F H g c=>(PE.mono (i g c) λp Q⟨e1,J⟩=>⟨by assumption,?_⟩)
  rw[J];simp[vz,wc5,BD.den,wc0,m]
 {grind};{grind};grind
end
def wbz{Z:ZM}{H:Wau}{V:Nm->Wan}{w:Wao}{k m c off:Nat}{xs:Wam PV}{l d:Wal Addr}(h:Rp Z H V w (.sl k xs) (.slice l m c))(x:∀y∈xs,y.cells.length=k)(v:off<=m)(t:m<=c)
  (f:(l=none/\d=none)\/∃b o,l=some ⟨b,0,none⟩/\d=some ⟨b,o,none⟩/\(o=off*k\/c=off)):Rp Z H V w (.sl k (xs.drop off)) (.slice d (m-off) (c-off)):=by
 cases h with
 |nil k a c=>
  rw[Nat.zero_sub,List.drop_nil];exact .nil _ _ _
 |sl k xs b o c g _ n hz q F G=>
  rcases f with⟨e,_⟩|⟨B,A,e,rfl,I⟩
  ·grind
  ·cases e;by_cases h0:off=xs.length
   ·rw[h0,wed,Nat.sub_self];exact .nil _ _ _
   ·have u:A=off*k:=U;subst u;have r:(xs.drop off).flatMap PV.cells=(xs.flatMap PV.cells).drop (off*k):=by
     have C:xs.flatMap PV.cells=(xs.take off).flatMap PV.cells++(xs.drop off).flatMap PV.cells:=by rw[<- wer,wd2]
     have D:((xs.take off).flatMap PV.cells).length=off*k:=by
      have:∀(j:Wam PV),(∀y∈j,y.cells.length=k)->(j.flatMap PV.cells).length=j.length*k:=by
       intro j;induction j with
       |nil=>simp
       |cons y j L=>grind
      grind
     grind
    have:=Rp.sl k (xs.drop off) b (off*k) (c-off) (λi=>g (off*k+i)) (λy z=>x y (wfe z)) X hz q (λi p s=>by
     grind) λi p s=>by
     grind
    grind
def wbw{H:Wau}{id:Nm}{ver off:Nat}{t:Wap}{k n:Nat}{cs:Wam PV}(j:J6 H id ver=some (t,k,n,cs))(xs:Wam PV)(u:xs.length=n)(l:∀y∈xs,y.cells.length=k)
  (h:∀(i:Nat)p q,cs[i]?=some p->(xs.flatMap PV.cells)[i]?=some q->View H p q):View H (.qs id off k ver) (.sl k (xs.drop off)):=λP W V w x v z=>by
 obtain⟨B,f⟩:=Jw j;cases z with
 |qs _ _ _ _ _ g s=>
  obtain⟨A,m,c,o,r,rfl,e,d,b⟩:=s X f;have a:=View.row j xs u l h P W V w x (V id) (.ps id ver _ g λ_ _=>rfl);rw[r]at a;exact wbz a l e d b
def zps{α:Type}(f:TS->Option α):List TS->Option (List α)
 |[]=>some []
 |x::b=>match f x with
  |none=>none
  |some a=>match zps f b with
   |none=>none
   |some l=>some (a::l)
mutual
def Qu(G:EG):(t:Ty)->TS->Option t.D
 |.int k,s=>zaj (.int k) s
 |.bool,s=>zaj .bool s
 |.str,s=>zaj .str s
 |.sl t,s=>match s with
  |.own id a=>match Nat.beq (G id).ver a with
   |true=>match (G id).b with
    |some (.row _ f l)=>Dyn.as ⟨.sl f,l⟩ (.sl t)
    |some (.rowx _ k c)=>match Nat.beq k (wid t)with
     |true=>zps (Qu G t) c
     |false=>none
    |some (.rows _ _ f l _ none)=>Dyn.as ⟨.sl (.sl f),l⟩ (.sl t)
    |_=>none
   |false=>none
  |.q id k e a=>match Nat.beq (G id).ver a && Nat.beq k (wid t)with
   |true=>match (G id).b with
    |some (.row _ f l)=>match Dyn.as ⟨.sl f,l⟩ (.sl t)with
     |some l=>some (l.drop e)
     |none=>none
    |_=>none
   |false=>none
  |s=>zaj (.sl t) s
 |.ref t,s=>match s with
  |.pt id e a=>match Nat.beq e 0 && Nat.beq (G id).ver a with
   |true=>match (G id).b with
    |some (.box _ c)=>match Qu G t (zeh (Y9 t) c)with
     |some x=>some (some x)
     |none=>none
    |_=>none
   |false=>none
  |.rd d=>match d.as t with
   |some x=>some (some x)
   |none=>none
  |s=>zaj (.ref t) s
 |.nil,_=>none
 |.cons _ _,_=>none
 |.st r,s=>match zaj (.st r) s with
  |some x=>some x
  |none=>match zfb s with
   |some c=>zij G r c
   |none=>none
 |.arr n t,s=>match zaj (.arr n t) s with
  |some x=>some x
  |none=>match zfb s with
   |some c=>jji n (zp4 (Qu G t) (Y9 t) (wid t) n c)
   |none=>none
 |.tup r,s=>match s with
  |.tup c=>zhk G r c
  |s=>zaj (.tup r) s
def zij(G:EG):(r:Ty)->List TS->Option r.D
 |.nil,[]=>some ()
 |.cons a r,b=>match zcz 512 (wid a) b with
  |none=>none
  |some q=>match Qu G a (zeh (Y9 a) q.1)with
   |none=>none
   |some x=>match zij G r q.2 with
    |none=>none
    |some y=>some (x,y)
 |_,_=>none
def zhk(G:EG):(r:Ty)->List TS->Option r.D
 |.nil,[]=>some ()
 |.cons a r,x::b=>match Qu G a x with
  |none=>none
  |some p=>match zhk G r b with
   |none=>none
   |some y=>some (p,y)
 |_,_=>none
end
section
variable{H:PHeap}{G:EG}
def View.ref{p q r:PV}(h:View H p q)(a:Ref q r):View H p r:=λP W V w c v b=>a _ _ _ _ _ (h P W V w c v b)
def wa3{a b c d:Wam PV}(e:ViewL H a b)(h:ViewL H c d):ViewL H (a++c) (b++d):=⟨by simp[e.1,h.1],λi p q f g=>by
 by_cases j:i<a.length;{rw[wcx j]at f;rw[wcx (by rw[<- e.1];omega)]at g;exact e.2 i p q f g};.rw[wcz U]at f;rw[wcz (by rw[<- e.1];omega),<- e.1]at g;exact h.2 _ p q f g⟩
def VOk(H:PHeap)(s:TS)(t:Ty)(x:t.D):Prop:=View H s.den (enc t x)/\ViewL H s.den.cells (jp t x)
def jrt{t:Ty}(x:t.D)(h:Y9 t=false):jp t x=[enc t x]:=by
 have:=ju t x;rw[zht h]at this;unfold enc mkV;rw[h];match a:jp t x,this with
 |[c],_=>rfl
def VOk.one{s:TS}{t:Ty}{x:t.D}(h:View H s.den (enc t x))(a:Y9 t=false)(b:zah s=false):VOk H s t x:=⟨h,by
 rw[Ze b,jrt x a];exact ViewL.cons h (ViewL.nil H)⟩
def Zo{t:Ty}{s:TS}{x:t.D}(h:zaj t s=some x):VOk H s t x:=by have e:NoP s.den/\∀c∈s.den.cells,NoP c:=by{unfold zaj at h;split at h;{simp[TS.den];exact⟨zcj _ _,λc a=>(zcj _ _).cell a⟩};{simp[TS.den];exact⟨zj4 _,λc a=>(zj4 _).cell a⟩};grind};obtain⟨b,f⟩:=zb9 h;exact⟨View.ref (View.noP e.1) f,b.1,λi p q d g=>View.ref (View.noP (e.2 p (wcq d))) (b.2 i p q d g)⟩
def zya{t:Ty}{f:TS->Wal t.D}(b:∀s x,f s=some x->VOk H s t x):∀{xs:Wam TS}{l:Wam t.D},zps f xs=some l->ViewL H (qb xs) (l.flatMap (jp t))/\l.length=xs.length
 |[],l,h=>by simp[zps]at h;cases h;simp only[qb,List.flatMap_nil];exact⟨ViewL.nil H,rfl⟩
 |x::xs,l,h=>by simp[zps]at h;(split at h<;>try (cases h;done));rename_i a d;(split at h<;>try (cases h;done));rename_i i e;cases h;obtain⟨c,g⟩:=zya b e;refine⟨?_,X⟩;simp[qb,wdj];exact wa3 (b _ _ d).2 c
def zow(t:Ty):Qu G t .dead=none:=by cases t<;>simp[Qu,zaj,zfb,z5j,zq9]
def z1g{t:Ty}{f:TS->Wal t.D}(g:∀s x,f s=some x->VOk H s t x)(k:f .dead=none):∀n c l,zp4 f (Y9 t) (wid t) n c=some l->ViewL H (qb c) (l.flatMap (jp t))
 |0,[],l,h=>by simp[zp4]at h;cases h;simp[qb,List.flatMap_nil];exact ViewL.nil H
 |0,_::_,l,h=>by trivial
 |n+1,c,l,h=>by simp[zp4]at h;(split at h<;>try (cases h;done));rename_i r o;(split at h<;>try (cases h;done));rename_i a j;(split at h<;>try (cases h;done));rename_i p m;cases h;obtain⟨i,q⟩:=Vz _ _ _ _ o;have b:zeh (Y9 t) r.1 ≠ .dead:=λe=>X;have d:=(g _ _ j).2;rw[zbp b]at d;rw[wdj,<- i];exact wa3 d (z1g g k n r.2 p m)
def wa9{s:TS}{xs:Wam TS}{t:Ty}{x:t.D}(b:zfb s=some xs)(a:Y9 t=true)(h:ViewL H (qb xs) (jp t x)):VOk H s t x:=by unfold VOk;rw[zi0 b];refine⟨?_,h⟩;unfold enc mkV;rw[a];exact View.agg h.1 h.2
def jrs{H:Wau}{id:Nm}{ver:Nat}{tid:Wap}{t:Ty}{l:Wam t.D}(h:J6 H id ver=some (tid,wid t,l.length,l.flatMap (jp t))):View H (.ps id ver) (enc (.sl t) l):=by rw[zji];refine View.row h _ V (λy c=>?_) λi p q a b=>?_;{obtain⟨z,_,rfl⟩:=wc6.1 c;rw[enc_cells,ju]};.rw[Zl,a]at b;cases b;obtain⟨z,_,hz⟩:=wdm.1 (wcq a);exact View.noP (za _ _ _ hz)
def jkh{id ver kv:Nat}{tid it:Wap}{t:Ty}{l:Wam (Wam t.D)}(a:AgN H G id)(g:(G id).b=some (.rows tid it t l kv none))(j:(G id).ver=ver):View H (.ps (.o id) ver) (enc (.sl (.sl t)) l):=by rw[zji];refine View.row (Js a.1 g rfl j) _ V (λy k=>?_) λi p q d f=>?_;{obtain⟨z,_,rfl⟩:=wc6.1 k;rfl};.have e:l.flatMap (jp (.sl t))=l.map (enc (.sl t)):=by{rw[List.map_eq_flatMap];rfl};rw[Zl,e,wcv]at f;obtain⟨r,h,rfl⟩:=wct.1 f;have c:=(wcl.1 h).1;simp[wcv,List.getElem?_range c,wc5,wdn]at d;subst d;refine jrs (tid:=it) ?_;unfold J6;rw[a.2 i];simp[zcc,g,wdv,BD.ch,Hole.is,h,wc5,if_true]
mutual
theorem Zq(j:∀id,(G id).b.isSome=true->AgN H G id):∀(t:Ty)(s:TS)(x:t.D),Qu G t s=some x->VOk H s t x
 |.int k,s,x,h=>Zo (by simpa only [Qu]using h)
 |.bool,s,x,h=>Zo (by simpa only [Qu]using h)
 |.str,s,x,h=>Zo (by simpa only [Qu]using h)
 |.sl t,s,x,h=>by simp only[Qu]at h;split at h;{rename_i _ id B;(split at h<;>try (cases h;done));rename_i f;have f:=wcn f;split at h;{rename_i m P l c;have:=wag h;injection this with e1 v;injection e1 with e1;subst e1;have v:=eq_of_heq v;subst v;refine VOk.one ?_ rfl rfl;simp only[TS.den];rw[zji];refine View.row (Js (j id (by rw[c];rfl)).1 c rfl f) _ V (λy g=>?_) λi p q a A=>?_;{obtain⟨z,_,rfl⟩:=wc6.1 g;rw[enc_cells,ju]};.rw[Zl,a]at A;cases A;obtain⟨z,_,hz⟩:=wdm.1 (wcq a);exact View.noP (za _ _ _ hz)};{rename_i m k C c;(split at h<;>try (cases h;done));rename_i u;have u:=wcn u;obtain⟨a,A⟩:=zya (λs x=>Zq j t s x) h;refine VOk.one ?_ rfl rfl;simp only[TS.den];rw[zji,<- u];refine View.row (Js (j id (by rw[c];rfl)).1 c rfl f) _ (by simp[A]) (λy g=>?_) λi p q F I=>?_;{obtain⟨z,_,rfl⟩:=wc6.1 g;rw[enc_cells,ju,u]};.rw[Zl]at I;exact a.2 i p q F I};{rename_i m R P l kv c;cases wag h;refine VOk.one ?_ rfl rfl;simp only[TS.den];exact jkh (j id (by rw[c];rfl)) c f};.cases h};{rename_i _ id k O B;(split at h<;>try (cases h;done));rename_i f;simp only[wco]at f;obtain⟨w,u⟩:=f;have u:=wcn u;have w:=wcn w;subst u;(split at h<;>try (cases h;done));rename_i m P l c;split at h<;>cases h;rename_i S Q;have:=wag Q;injection this with e1 v;injection e1 with e1;subst e1;have v:=eq_of_heq v;subst v;refine VOk.one ?_ rfl rfl;simp only[TS.den];rw[zji,List.map_drop];refine wbw (Js (j id (by rw[c];rfl)).1 c rfl w) _ V (λy g=>?_) λi p q a A=>?_;{obtain⟨z,_,rfl⟩:=wc6.1 g;rw[enc_cells,ju]};.rw[Zl,a]at A;cases A;obtain⟨z,_,hz⟩:=wdm.1 (wcq a);exact View.noP (za _ _ _ hz)};.exact Zo h
 |.ref t,s,x,h=>by simp only[Qu]at h;split at h;{rename_i _ id O B;(split at h<;>try (cases h;done));rename_i f;simp only[wco]at f;obtain⟨L,w⟩:=f;have L:=wcn L;have w:=wcn w;subst L;(split at h<;>try (cases h;done));rename_i m C c;split at h<;>cases h;rename_i y g;have M:zeh (Y9 t) C ≠ .dead:=λe=>by{rw[e,zow]at g;cases g};have a:=(Zq j t _ y g).2;rw[zbp M]at a;refine VOk.one ?_ rfl rfl;simp only[TS.den];show View H (.pp (.o id) 0 B) (.rp (jp t y));exact View.pp (Q8 (j id (by rw[c];rfl)).1 c w) (by rw[wd0];exact a.1) λi p q F I=>a.2 i p q (by rw[wd0]at F;exact F) I};{rename_i _ d;split at h<;>cases h;rename_i y g;have:=wag g;subst this;refine VOk.one ?_ rfl rfl;simp only[TS.den];exact View.noP (.rp _ (za _ _))};.exact Zo h
 |.nil,s,x,h=>by simp[Qu]at h
 |.cons _ _,s,x,h=>by simp[Qu]at h
 |.st r,s,x,h=>by simp only[Qu]at h;split at h;{cases h;exact Zo (by assumption)};{(split at h<;>try (cases h;done));rename_i C N;exact wa9 N rfl (jct j r C x h)}
 |.arr n t,s,x,h=>by simp only[Qu]at h;split at h;{cases h;exact Zo (by assumption)};{(split at h<;>try (cases h;done));rename_i C N;exact wa9 N rfl (z1g (λs x=>Zq j t s x) (zow t) _ _ _ (zzm h))}
 |.tup r,s,x,h=>by simp only[Qu]at h;split at h;{rename_i _ C;have a:=z9s j r C x h;refine VOk.one ?_ rfl rfl;simp only[TS.den];exact View.tup a.1 a.2};.exact Zo h
theorem jct(g:∀id,(G id).b.isSome=true->AgN H G id):∀(r:Ty)(xs:Wam TS)(x:r.D),zij G r xs=some x->ViewL H (qb xs) (jp r x)
 |.nil,xs,x,h=>by cases xs with|nil=>{simp only[qb,jp];exact ViewL.nil H}|cons _ _=>simp[zij]at h
 |.cons a r,xs,x,h=>by simp only[zij]at h;(split at h<;>try (cases h;done));rename_i q j;(split at h<;>try (cases h;done));rename_i p d;(split at h<;>try (cases h;done));rename_i y l;cases h;obtain⟨i,m⟩:=Vz _ _ _ _ j;have c:zeh (Y9 a) q.1 ≠ .dead:=λe=>by{rw[e,zow]at d;cases d};have f:=(Zq g a _ _ d).2;rw[zbp c]at f;simp only[jp];rw[<- i];exact wa3 f (jct g r q.2 y l)
 |.int k,xs,x,h=>by simp[zij]at h
 |.bool,xs,x,h=>by simp[zij]at h
 |.str,xs,x,h=>by simp[zij]at h
 |.sl t,xs,x,h=>by simp[zij]at h
 |.ref t,xs,x,h=>by simp[zij]at h
 |.st r,xs,x,h=>by simp[zij]at h
 |.arr n t,xs,x,h=>by simp[zij]at h
 |.tup r,xs,x,h=>by simp[zij]at h
theorem z9s(c:∀id,(G id).b.isSome=true->AgN H G id):∀(r:Ty)(xs:Wam TS)(x:r.D),zhk G r xs=some x->ViewL H (zq xs) (Qd r (jp r x))
 |.nil,xs,x,h=>by cases xs with|nil=>{simp only[zq,Qd];exact ViewL.nil H}|cons _ _=>simp[zhk]at h
 |.cons a r,xs,x,h=>by cases xs with|nil=>{simp[zhk]at h}|cons z xs=>simp only[zhk]at h;(split at h<;>try (cases h;done));rename_i p e;(split at h<;>try (cases h;done));rename_i y f;cases h;simp only[zq,jp,Qd];have d:=ju a p;rw[wfj d,wfa d];exact ViewL.cons (Zq c a z p e).1 (z9s c r xs y f)
 |.int k,xs,x,h=>by simp[zhk]at h
 |.bool,xs,x,h=>by simp[zhk]at h
 |.str,xs,x,h=>by simp[zhk]at h
 |.sl t,xs,x,h=>by simp[zhk]at h
 |.ref t,xs,x,h=>by simp[zhk]at h
 |.st r,xs,x,h=>by simp[zhk]at h
 |.arr n t,xs,x,h=>by simp[zhk]at h
 |.tup r,xs,x,h=>by simp[zhk]at h
end
end
def pvs(ds:List Dyn):List PV:=ds.map Dyn.pv
def jkx(ds:List Dyn):EF:=λs=>match ds[s]? with
 |some d => .v d
 |none=>UND
def jdl(P:Program)(E:EF)(G:EG):ResultVar->Option TS
 |.tmp t=>some (E t)
 |.cell a t=>match asz P t with
  |none=>none
  |some (e,k)=>match E a with
   |.pt id c d=>match Nat.beq (G id).ver d with
    |true=>match (G id).b with
     |some (.box _ f)=>ldT e k c f
     |_=>none
    |false=>none
   |_=>none
def z5b(P:Program)(E:EF)(G:EG):List ResultVar->Option (List TS)
 |[]=>some []
 |r::a=>match jdl P E G r with
  |none=>none
  |some x=>match z5b P E G a with
   |none=>none
   |some b=>some (x::b)
def zva(P:Program)(a:List ResultVar)(E:EF)(G:EG):Option TS:=match a with
 |[r]=>jdl P E G r
 |l=>match z5b P E G l with
  |some b=>some (.tup b)
  |none=>none
section
variable{P:Program}{E:EF}{G:EG}{R:PHeap}
def jb0{r:ResultVar}{s:TS}(h:jdl P E G r=some s):∃q,zkc P (qp G R) (Ju E) r=some q/\Ref q s.den:=by cases r with|tmp t=>{simp[jdl]at h;cases h;exact⟨_,rfl,Ref.refl _⟩}|cell a t=>simp[jdl]at h;(split at h<;>try (cases h;done));rename_i l k b;(split at h<;>try (cases h;done));rename_i id g j e;(split at h<;>try (cases h;done));rename_i c;have c:=wcn c;(split at h<;>try (cases h;done));rename_i i n f;obtain⟨⟨p,m,d⟩,_⟩:=zj0 h;refine⟨p,?_,d⟩;show zco P (qp G R) t (E a).den=some p;rw[e];simp[TS.den];unfold zco;rw[b];simp only;rw[Q8 rfl f c];grind
def jc7:∀{b:Wam ResultVar}{xs:Wam TS},z5b P E G b=some xs->∃qs,b.mapM (zkc P (qp G R) (Ju E))=some qs/\RefL qs (zq xs)
 |[],xs,h=>by simp[z5b]at h;cases h;exact⟨[],rfl,by simp[zq];exact RefL.nil⟩
 |r::b,xs,h=>by simp[z5b]at h;(split at h<;>try (cases h;done));rename_i x e;split at h<;>cases h;rename_i i a;obtain⟨q,f,c⟩:=jb0 (R:=R) e;obtain⟨qs,g,d⟩:=jc7 a;refine⟨q::qs,?_,by simp[zq];exact RefL.cons c d⟩;simp_all
def z7a{fn:Func}{s:TS}(h:zva P fn.results.toList E G=some s):∃q,jeu P fn (Ju E) (qp G R)=some q/\Ref q s.den:=by
 unfold zva at h;unfold jeu;generalize fn.results.toList=l at h;have a:∀{l:Wam ResultVar},(match z5b P E G l with
   |some c=>some (TS.tup c)
   |none=>none)=some s->∃q,(l.mapM (zkc P (qp G R) (Ju E))).map .tup=some q/\Ref q s.den:=λ{l}h=>by
  split at h<;>cases h;rename_i c b;obtain⟨qs,d,e⟩:=jc7 b;exact⟨.tup qs,by rw[d];rfl,by simp[TS.den];exact Ref.tup e⟩
 match l,h with
 |[],h=>exact a h
 |[r],h=>exact jb0 h
 |_::_::_,h=>exact a h
end
def funP(P:Program)(b:SyT)(hint:Nat->Option HK)(n:Nat)(a:List ResultVar)(c:Code)(ats:List Ty)(rt:Ty)(nn:Nat)(t:DL ats):Option rt.D:=
 vq b nn hint 0 0 n c 1 0 (jkx (Jc ats t)) EG.empty λe _ E G=>match e with
  |.normal=>match zva P a E G with
   |some s=>Qu G rt s
   |none=>none
  |.ret=>match zva P a E G with
   |some s=>Qu G rt s
   |none=>none
  |_=>none
def z8w(P:Program)(f:FuncId)(ats:List Ty)(rt:Ty)(g:DL ats->Option rt.D):Prop:=
 Qi P f=true/\∀t r,g t=some r->PCall P f (pvs (Jc ats t)) (· = enc rt r)
def R0:PHeap:=λ_=>⟨0,none⟩
def z5n:qp EG.empty R0=PHeap.empty:=by funext k;cases k<;>rfl
def waz{P:Waq}{f:Wat}{fn:Func}{c:Code}{b:Wam PV}{R:PV->Prop}(t:P.funcs[f]?=some fn)(r:fn.body=some c)(u:b.length<=fn.ntmps)
  (h:∀W,(∀i,W.G i=.unk)->PC P W fn.ntmps c (zlm b) PHeap.empty λe F H=>(e=.normal\/e=.ret)/\∃q p,jeu P fn F H=some q/\View H q p/\NoP p/\R p):PCall P f b R:=λZ w D g hz j o=>by
 refine calls_of_wp t r (h { w:=w,Z:=Z,hm:=j,gw:=g } (λ_=>rfl) V0 _ w _ (Rel.enter g hz j o u) λe A B n C z⟨s,q,p,x,y,l,m⟩ d=>?_);obtain⟨v,a,k⟩:=z02 d x;have:=y P _ n z d.heap v k;rcases s with rfl|rfl
 ·exact⟨d.defers,v,a,v,p,rfl,m,l,this,d.heap.below⟩
 ·exact⟨d.defers,v,a,v,p,rfl,m,l,this,d.heap.below⟩
def zz1(ds:Wam Dyn):zlm (pvs ds)=Ju (jkx ds):=by funext t;unfold zlm Ju jkx pvs;rw[wcv];cases ds[t]? with|none=>{rfl}|some d=>rfl
def z0t:∀a t,(Jc a t).length=a.length
 |[],_=>rfl
 |[t],_=>rfl
 |t::u::a,x=>by simp[Jc,wdq,z0t (u::a)]
def jsv{P:Waq}{y:SyT}(l:zwp P y)(hm:P.follows .mixedOrders=true){hint:Nat->Wal HK}{n:Nat}{x:Wam ResultVar}{c:Code}{ats:Wam Ty}{rt:Ty}{nn:Nat}{f:Wat}{fn:Func}(F:P.funcs[f]?=some fn)(D:fn.body=some c)(I:fn.ntmps=n)(M:fn.results.toList=x)(J:Nat.ble ats.length n=true)(G:Qi P f=true):z8w P f ats rt (funP P y hint n x c ats rt nn):=by
 subst I;subst M;refine⟨G,λt r h=>?_⟩;have d:(pvs (Jc ats t)).length<=fn.ntmps:=by{unfold pvs;rw[wc0,z0t];simp_all};refine waz F D d λW C=>?_;have B:RestOk 0 R0:=λi T h=>by{cases h};have b:GhOk 0 W:=λi=>by{rw[C];exact .unk};obtain⟨e,nx,u,a,Z,_,g⟩:=ze hm l c 1 0 (jkx (Jc ats t)) EG.empty _ r h;have this:=g W R0 b B;rw[z5n]at this;rw[zz1];refine PC.mono this λY R S⟨h0,z,A⟩=>?_;subst h0;subst z;subst A;have Q:∀{o:Wal TS},o=zva P fn.results.toList u a->(match o with
   |some s=>Qu a rt s
   |none=>none)=some r->∃q p,jeu P fn (Ju u) (qp a R0)=some q/\View (qp a R0) q p/\NoP p/\p=enc rt r:=λ{o}g h=>by
  cases o with
  |none=>grind
  |some s=>
   simp only at h;obtain⟨q,L,k⟩:=z7a g.symm;have N:=(Zq (H:=qp a R0) (λid _=>⟨rfl,λj=>rfl⟩) rt s r h).1;exact⟨q,_,L,λP W V w O v m=>N P W V w O v (k _ _ _ _ _ m),zcj _ _,rfl⟩
 grind
structure PF where
 ats:List Ty
 rt:Ty
 g:DL ats->Option rt.D
abbrev jec:=FuncId->Option PF
def Y4(P:Program)(S:jec):Prop:=∀f x,S f=some x->z8w P f x.ats x.rt x.g
def zvh(E:EF)(c:Call):Option (FuncId×List TS):=match c.callee with
 |.value x=>match evE E x with
  |.fn (.func f) a b=>some (f,a++c.args.toList.map (evE E)++b)
  |_=>none
 |_=>none
mutual
def zzh:TS->Bool
 |.v _=>true
 |.c _=>true
 |.rd _=>true
 |.fn _ a b=>zux a && zux b
 |.agg d=>zux d
 |.tup d=>zux d
 |_=>false
def zux:List TS->Bool
 |[]=>true
 |x::a=>zzh x && zux a
end
mutual
theorem jhl:∀s:TS,zzh s=true->NoP s.den
 |.v d,h=>by simp only[TS.den];exact zcj _ _
 |.c v,h=>by simp only[TS.den];exact zj4 v
 |.rd d,h=>by simp only[TS.den];exact .rp _ (za _ _)
 |.fn f a b,h=>by simp only[zzh,wco]at h;simp only[TS.den];exact .fn _ _ _ (zi8 a h.1).1 (zi8 b h.2).1
 |.agg e,h=>by simp only[zzh]at h;simp only[TS.den];exact .agg _ (zi8 e h).2
 |.tup e,h=>by simp only[zzh]at h;simp only[TS.den];exact .tup _ (zi8 e h).1
 |.own _ _,h=>by simp[zzh]at h
 |.q _ _ _ _,h=>by simp[zzh]at h
 |.pt _ _ _,h=>by simp[zzh]at h
 |.elt _ _ _ _ _,h=>by simp[zzh]at h
 |.dead,h=>by simp[zzh]at h
theorem zi8:∀b:Wam TS,zux b=true->(∀p∈zq b,NoP p)/\∀p∈qb b,NoP p
 |[],_=>⟨λp a=>by simp[zq]at a,λp a=>by simp[qb]at a⟩
 |x::b,h=>by simp only[zux,wco]at h;have c:=jhl x h.1;obtain⟨d,e⟩:=zi8 b h.2;refine⟨λp a=>?_,λp a=>?_⟩;{simp only[zq,wda]at a;rcases a with rfl|a;{exact c};.exact d p a};.simp only[qb,wcu]at a;rcases a with a|a;{exact c.cell a};.exact e p a
end
def zt1:(ts:List Ty)->List TS->Option (DL ts)
 |[],[]=>some ()
 |[t],[x]=>toT t x
 |t::u::ts,x::c=>match toT t x with
  |none=>none
  |some a=>match zt1 (u::ts) c with
   |none=>none
   |some b=>some (a,b)
 |_,_=>none
def z4e:∀{ts:Wam Ty}{xs:Wam TS}{t:DL ts},zt1 ts xs=some t->RefL (zq xs) (pvs (Jc ts t))
 |[],xs,t,h=>by cases xs with|nil=>{simp[zq];exact RefL.nil}|cons _ _=>simp[zt1]at h
 |[a],xs,t,h=>by
  match xs,h with
  |[x],h=>
   simp[zt1]at h;simp[zq];exact RefL.cons (zb7 _ _ _ h).2 RefL.nil
  |[],h=>trivial
  |_::_::_,h=>trivial
 |a::u::ts,xs,t,h=>by cases xs with|nil=>{trivial}|cons x xs=>simp[zt1]at h;(split at h<;>try (cases h;done));rename_i p b;split at h<;>cases h;rename_i q c;simp[zq];exact RefL.cons (zb7 _ _ _ b).2 (z4e c)
def jp4(S:jec)(E:EF)(c:Call):Option SR:=match zvh E c with
 |none=>none
 |some (f,a)=>match S f with
  |none=>none
  |some x=>match zux a with
   |true=>match zt1 x.ats a with
    |some t=>some (.vo x.rt (x.g t))
    |none=>none
   |false=>none
section
variable{P:Program}{o:Oper}{E:EF}{G:EG}{rd:List Nat}{F:PFrame}{H:PHeap}{W:Env}
def zjd{c:Call}{f:Wat}{j:Wam TS}(l:o.op=.call c)(d:Agr o E G rd F H)(h:zvh E c=some (f,j)):zc0 F c=some (f,zq j):=by unfold zvh at h;unfold zc0;split at h;{rename_i x k;rw[k];simp only;have m:evP F x=(evE E x).den:=d.ev (by rw[l];simp[Op.operands,Call.operands,k]);split at h;{rename_i g a b i;cases h;rw[m,i];have e:c.args.toList.map (evP F)=zq (c.args.toList.map (evE E)):=by{rw[zgz,wd3];exact wec λy n=>d.ev (by rw[l];simp[Op.operands,Call.operands,Array.mem_append];grind)};simp[TS.den,ja4,e]};grind};grind
def jq5{S:jec}(m:Y4 P S){c:Call}{q:SR}(k:o.op=.call c)(h:jp4 S E c=some q):SOk P o E G q:=by
 unfold jp4 at h;split at h<;>try (cases h;done)
 rename_i f g w;split at h<;>try (cases h;done)
 rename_i x z;split at h<;>try (cases h;done)
 rename_i u;split at h<;>cases h;rename_i t e;obtain⟨s,n⟩:=m f x z;refine SOk.vo λr v W F H d=>?_;have a:=(zi8 g u).1;have b:=z4e e;have y:ViewL PHeap.empty (zq g) (pvs (Jc x.ats t)):=⟨b.1,λi p q j l=>View.ref (View.noP (a p (wcq j))) (b.2 i p q j l)⟩
 exact wb9 k (zjd k d w) s y a (n t r v)
end
mutual
def idvT:TS->List (Nat×Nat)
 |.own id c=>[(id,c)]
 |.q id _ _ c=>[(id,c)]
 |.pt id _ c=>[(id,c)]
 |.elt id _ _ _ c=>[(id,c)]
 |.kid id _ v=>[(id,v)]
 |.kel id _ _ _ _ v=>[(id,v)]
 |.fn _ a b=>zkg a++zkg b
 |.agg d=>zkg d
 |.tup d=>zkg d
 |_=>[]
def zkg:List TS->List (Nat×Nat)
 |[]=>[]
 |x::a=>idvT x++zkg a
end
def zd4(G:EG):List (Nat×Nat)->List Nat
 |[]=>[]
 |x::r=>match (Nat.beq x.2 (G x.1).ver ||Nat.beq x.2 (G x.1).cv) && (G x.1).b.isSome with
  |true=>x.1::zd4 G r
  |false=>zd4 G r
def idsB:Option BD->List (Nat×Nat)
 |some (.rowx _ _ a)=>zkg a
 |some (.box _ a)=>zkg a
 |_=>[]
def reach(G:EG):Nat->List Nat->List Nat->Option (List Nat)
 |0,_,_=>none
 |m+1,[],a=>some a
 |m+1,i::t,a=>match znc a i with
  |true=>reach G m t a
  |false=>reach G m (zd4 G (idsB (G i).b)++t) (a++[i])
def zi3{l:Wam Nat}{x:Nat}:znc l x=true↔x∈l:=by unfold znc;simp
def zb8(D:List Nat)(G:EG):EG:=λid=>match znc D id with
 |true=>G id
 |false=>⟨(G id).ver,none⟩
mutual
def scT:Ty->Bool
 |.int _=>true
 |.bool=>true
 |.str=>true
 |.arr _ t=>scT t
 |.nil=>true
 |.cons a r=>scT a && scT r
 |.st r=>scT r
 |.tup r=>scT r
 |_=>false
end
def zmk{D:Wam Nat}{G:EG}{H:Wau}(h:∀id∈D,AgN H G id):∀id,((zb8 D G) id).b.isSome=true->AgN H (zb8 D G) id:=λid c=>by cases a:znc D id with|true=>{have e:zb8 D G id=G id:=by{unfold zb8;grind};unfold AgN;rw[e];exact h id (zi3.1 a)}|false=>unfold zb8 at c;grind
def jsj{t:Ty}{cs:Wam PV}(a:cs.length=wid t)(h:∀c∈cs,Sc c):Sc (mkV t cs):=by
 unfold mkV;cases b:Y9 t with
 |true=>exact .agg _ h
 |false=>
  rw[zht b]at a;match cs,a with
  |[c],_=>grind
mutual
theorem zjl:∀(t:Ty)(x:t.D),scT t=true->∀c∈jp t x,Sc c
 |.int k,x,h,c,b=>by simp only[jp,wcr]at b;subst b;exact .u _
 |.bool,x,h,c,b=>by simp only[jp,wcr]at b;subst b;exact .u _
 |.str,x,h,c,b=>by simp only[jp,wcr]at b;subst b;exact .u _
 |.sl _,x,h,c,b=>by simp[scT]at h
 |.ref _,x,h,c,b=>by simp[scT]at h
 |.arr n t,x,h,c,b=>by simp only[scT]at h;simp only[jp]at b;obtain⟨y,_,d⟩:=wdm.1 b;exact zjl t y h c d
 |.nil,x,h,c,b=>by simp[jp]at b
 |.cons a r,x,h,c,b=>by simp only[scT,wco]at h;simp only[jp,wcu]at b;rcases b with b|b;{exact zjl a x.1 h.1 c b};.exact zjl r x.2 h.2 c b
 |.st r,x,h,c,b=>by simp only[scT]at h;simp only[jp]at b;exact zjl r x h c b
 |.tup r,x,h,c,b=>by simp only[scT]at h;simp only[jp,wcr]at b;subst b;exact .tup _ (z5k r x h)
theorem z5k:∀(r:Ty)(x:r.D),scT r=true->∀p∈Qd r (jp r x),Sc p
 |.int k,x,h,c,b=>by simp[Qd]at b
 |.bool,x,h,c,b=>by simp[Qd]at b
 |.str,x,h,c,b=>by simp[Qd]at b
 |.sl _,x,h,c,b=>by simp[Qd]at b
 |.ref _,x,h,c,b=>by simp[Qd]at b
 |.arr n t,x,h,c,b=>by simp[Qd]at b
 |.nil,x,h,c,b=>by simp[Qd]at b
 |.st r,x,h,c,b=>by simp[Qd]at b
 |.tup r,x,h,c,b=>by simp[Qd]at b
 |.cons a r,x,h,c,b=>by simp only[scT,wco]at h;simp only[Qd,jp]at b;rw[wfj (ju a x.1),wfa (ju a x.1)]at b;rcases wda.1 b with rfl|b;{exact jsj (ju a x.1) (zjl a x.1 h.1)};.exact z5k r x.2 h.2 c b
end
def rdV(G:EG):(ts:List Ty)->List TS->Option (DL ts)
 |[],[]=>some ()
 |[t],[x]=>Qu G t x
 |t::u::ts,x::c=>match Qu G t x with
  |none=>none
  |some a=>match rdV G (u::ts) c with
   |none=>none
   |some b=>some (a,b)
 |_,_=>none
def jd2{G:EG}{H:Wau}(c:∀id,(G id).b.isSome=true->AgN H G id):∀{ts:Wam Ty}{xs:Wam TS}{t:DL ts},rdV G ts xs=some t->ViewL H (zq xs) (pvs (Jc ts t))
 |[],xs,t,h=>by cases xs with|nil=>{simp[zq];exact ViewL.nil H}|cons _ _=>simp[rdV]at h
 |[a],xs,t,h=>by
  match xs,h with
  |[x],h=>
   simp[rdV]at h;simp[zq];exact ViewL.cons (Zq c _ _ _ h).1 (ViewL.nil H)
  |[],h=>trivial
  |_::_::_,h=>trivial
 |a::u::ts,xs,t,h=>by cases xs with|nil=>{trivial}|cons x xs=>simp[rdV]at h;(split at h<;>try (cases h;done));rename_i p d;split at h<;>cases h;rename_i q e;simp[zq];exact ViewL.cons (Zq c _ _ _ d).1 (jd2 c e)
def jfj(S:jec)(E:EF)(G:EG)(c:Call):Option SR:=match zvh E c with
 |none=>none
 |some (f,a)=>match S f with
  |none=>none
  |some x=>match scT x.rt with
   |false=>none
   |true=>match reach G 1000 (zd4 G (zkg a)) []with
    |none=>none
    |some D=>match rdV (zb8 D G) x.ats a with
     |some t=>some (.dat x.rt.D (x.g t) (λy=> .v ⟨x.rt,y⟩) D)
     |none=>none
def jl8{P:Waq}{o:Oper}{E:EF}{G:EG}{S:jec}(g:Y4 P S){c:Call}{q:SR}(e:o.op=.call c)(h:jfj S E G c=some q):SOk P o E G q:=by
 unfold jfj at h;split at h<;>try (cases h;done)
 rename_i f p l;split at h<;>try (cases h;done)
 rename_i x n;split at h<;>try (cases h;done)
 rename_i d;split at h<;>try (cases h;done)
 rename_i D s;split at h<;>cases h;rename_i t b;obtain⟨j,i⟩:=g f x n;refine SOk.dat λr k W F H a=>?_;have m:=jd2 (zmk a.hn) b;simp[TS.den];exact wca e (zjd e a l) j m (i t r k) (jsj (ju _ _) (zjl _ _ d))
structure Prm where
 bd:Nat->Bool
 lit:Nat->Option LK
 zt:ZT
 zt2:ZT
 zy:ZY
 S:jec
def ztOf{α:Type}(pr:Prm)(l:List α):ZT:=match l with
 |[]=>pr.zt
 |_=>pr.zt2
def z0q(o:Oper):Nat:=match o.dst with
 |some d=>d
 |none=>0
def tySt:TS->Option Ty
 |.v ⟨.st r,_⟩=>some r
 |_=>none
def orT(a b:Option Ty):Option Ty:=match a with
 |some t=>some t
 |none=>b
def tyLf(P:Program)(t:TypeId):Option Ty:=match P.underlying t with
 |some (.int k)=>some (.int k)
 |some .bool=>some .bool
 |some .string=>some .str
 |_=>none
def tyPs(P:Program):List TypeId->Option Ty
 |[]=>some .nil
 |t::r=>match tyLf P t with
  |some a=>match tyPs P r with
   |some b=>some (.cons a b)
   |none=>none
  |none=>none
def tySP(P:Program)(t:TypeId):Option Ty:=match P.underlying t with
 |some (.struct a)=>tyPs P (a.toList.map (·.type))
 |_=>none
def jp2(P:Program)(bd:Bool)(op:BinOp)(t:TypeId)(x y:Operand)(E:EF)(G:EG):Option SR:=match y with
 |.const (.slice none 0 0)=>match zcu P t with
  |true=>jqs op (evE E x)
  |false=>none
 |.const (.pointer none)=>match jhc P t with
  |true=>jr1 bd op G (evE E x)
  |false=>none
 |.const .nilFunc=>match P.underlying t with
  |some (.func _ _ _)=>match evE E x with
   |.fn _ _ _=>match zqi op false with
    |some b=>some (.now (.c (.bool b)) [])
    |none=>none
   |.c .nilFunc=>match zqi op true with
    |some b=>some (.now (.c (.bool b)) [])
    |none=>none
   |_=>none
  |_=>none
 |y=>match ztt P t y with
  |false=>none
  |true=>match P.underlying t with
   |some (.int k)=>sInt bd k op (evE E x) (evE E y)
   |some .bool=>jps bd op (evE E x) (evE E y)
   |some .string=>sStr bd op (evE E x) (evE E y)
   |some (.struct _)=>match orT (orT (tySt (evE E x)) (tySt (evE E y))) (tySP P t)with
    |some r=>sEqS bd (eqS P t) (P.eqGuardType P.depth t) op r E x y
    |none=>none
   |some (.array n e)=>match P.underlying e with
    |some (.int k)=>match asz P e with
     |some (false,1)=>sEqA bd (P.eqGuardType P.depth t) op n k E x y
     |_=>none
    |_=>none
   |_=>none
def jed(P:Program)(pr:Prm)(b:Nat)(o:Oper)(c:Call)(E:EF)(G:EG):Option SR:=match c with
 |⟨.builtin .len,⟨[x]⟩,⟨[t]⟩⟩=>match zcu P t with
  |true=>jgz (pr.bd (z0q o)) true G (evE E x)
  |false=>match zek P t with
   |true=>jgz (pr.bd (z0q o)) false G (evE E x)
   |false=>none
 |⟨.builtin .append,⟨[s,x]⟩,⟨[t,e]⟩⟩=>match Nat.beq t e with
  |true=>sApp (yz P t) o G b (evE E s) (evE E x)
  |false=>none
 |⟨.builtin .min,⟨[x,y]⟩,_⟩=>jv1 (pr.bd (z0q o)) false (evE E x) (evE E y)
 |⟨.builtin .max,⟨[x,y]⟩,_⟩=>jv1 (pr.bd (z0q o)) true (evE E x) (evE E y)
 |⟨.value f,a,d⟩=>match jp4 pr.S E ⟨.value f,a,d⟩with
  |some q=>some q
  |none=>jfj pr.S E G ⟨.value f,a,d⟩
 |_=>none
abbrev Sy1:=Nat->Nat->Nat->Oper->EF->EG->Option SR
def ji0(P:Program)(pr:Prm):Sy1:=λn g m o E G=>match o.op with
 |.move x=>some (.now (evE E x) [])
 |.assign x=>some (.now (evE E x) [])
 |.pick c x y=>jpq (pr.bd (z0q o)) (evE E c) (evE E x) (evE E y)
 |.binOp r t x y _=>jp2 P (pr.bd (z0q o)) r t x y E G
 |.unOp .not _ x=>sNot (pr.bd (z0q o)) (evE E x)
 |.convert s d x=>match (zpp P s).isSome with
  |true=>match zpp P d with
   |some k=>jxf (pr.bd (z0q o)) k (evE E x)
   |none=>none
  |false=>none
 |.extract x i=>sExt (evE E x) i
 |.call c=>jed P pr g o c E G
 |.indexAddr t x i=>sIdx (esz P t) (arr P t) G (evE E x) (evE E i)
 |.index t x i=>match zek P t with
  |true=>jw1 (evE E x) (evE E i)
  |false=>none
 |.fieldAddr s x f=>match fof P s f with
  |some (j,l)=>match asz P l with
   |some (h,k)=>sFld j k h G (evE E x)
   |none=>none
  |none=>none
 |.field s x f=>match fof P s f with
  |some (j,l)=>match asz P l with
   |some (h,k)=>sFie j k h (evE E x)
   |none=>none
  |none=>none
 |.load t x=>match asz P t with
  |some (h,k)=>sLd h k G (evE E x)
  |none=>none
 |.store t x y=>match asz P t with
  |some (h,k)=>sSto h k G (evE E x) (evE E y)
  |none=>none
 |.slice t x q p none=>sSli (esz P t) (zek P t) (evE E x) (q.map (evE E)) (p.map (evE E))
 |.build t e=>sBld (ztOf pr e.toList) (arr P t).isSome (zra P t) t G (e.toList.map λx=>(x.1,evE E x.2))
 |.makeFunc f a b=>some (.now (.fn f (a.toList.map (evE E)) (b.toList.map (evE E))) [])
 |.nilCheck x=>jqz G (evE E x)
 |.alloc t=>jek pr.zt t o G g
 |.box t x=>sBox t o G g (evE E x)
 |.makeSlice t x y=>sMk pr.zy (yz P t) o G g (ztn x y) (evE E x)
 |.buildSlice t len e=>sLit (pr.lit (z0q o)) (yz P t) o G g len (e.toList.map λx=>(x.1,evE E x.2))
 |_=>none
section
variable{P:Program}{pr:Prm}{o:Oper}{E:EF}{G:EG}
def jo6{bd:Bool}{op:BinOp}{t r:Wap}{x y:War}{q:SR}(c:o.op=.binOp op t x y r)(h:jp2 P bd op t x y E G=some q):SOk P o E G q:=by
 unfold jp2 at h;split at h;{(split at h<;>try (cases h;done));rename_i k;exact jn6 c k h};{(split at h<;>try (cases h;done));rename_i k;exact jqk c k h}
 ·(split at h<;>try (cases h;done));rename_i A B C g;(split at h<;>try (cases h;done))
  .rename_i f a b l;split at h<;>cases h;rename_i i j;refine SOk.now λW F H e=>(wb1 c g (.inl ⟨f,zq a,zq b,?_,rfl⟩) j:PQ P W o F H (.u (.bool i)))
   rw[e.ev (by rw[c];simp[Op.operands]),l];rfl
  .rename_i l;split at h<;>cases h;rename_i i j;refine SOk.now λW F H e=>(wb1 c g (.inr ⟨?_,rfl⟩) j:PQ P W o F H (.u (.bool i)))
   rw[e.ev (by rw[c];simp[Op.operands]),l];rfl
 {(split at h<;>try (cases h;done));rename_i m;split at h;{exact jtq c m h};{rename_i g;exact jmz g c m h};{exact jva c m h};{(split at h<;>try (cases h;done));exact juv (d:=0) c h};{rename_i g;(split at h<;>try (cases h;done));rename_i n;(split at h<;>try (cases h;done));rename_i p;exact jvk c g n p h};.cases h}
def jjn(g:Y4 P pr.S){f:Nat}{c:Call}{q:SR}(a:o.op=.call c)(h:jed P pr f o c E G=some q):SOk P o E G q:=by unfold jed at h;split at h;{rename_i x t;split at h;{rename_i b;exact jik a (λ_=>b) (λe=>X) h};{(split at h<;>try (cases h;done));rename_i b;exact jik a (λe=>X) (λ_=>b) h}};{rename_i s x t j;(split at h<;>try (cases h;done));rename_i b;have:=wcn b;subst this;exact jt3 a h};{exact jhr (mx:=false) a h};{exact jhr (mx:=true) a h};{split at h;{rename_i i d;cases h;exact jq5 g a d};.exact jl8 g a h};.cases h
def jc1(j:Y4 P pr.S)(g:zh8 P pr.zt)(i:zh8 P pr.zt2):∀e f c o E G q,ji0 P pr e f c o E G=some q->SOk P o E G q:=λe f c o E G q h=>by unfold ji0 at h;split at h;{rename_i x a;cases h;exact jcy (.inl a)};{rename_i x a;cases h;exact jcy (.inr a)};{rename_i a;exact jqr a h};{rename_i a;exact jo6 a h};{rename_i a;exact jsx a h};{rename_i a;(split at h<;>try (cases h;done));rename_i d;(split at h<;>try (cases h;done));rename_i b;exact jmt a d b h};{rename_i a;exact jwl a h};{rename_i a;exact jjn j a h};{rename_i a;exact juh a h};{rename_i a;(split at h<;>try (cases h;done));rename_i d;exact jrr a d h};{rename_i a;(split at h<;>try (cases h;done));rename_i d;(split at h<;>try (cases h;done));rename_i b;exact jvp a d b h};{rename_i a;(split at h<;>try (cases h;done));rename_i d;(split at h<;>try (cases h;done));rename_i b;exact jtt a d b h};{rename_i a;(split at h<;>try (cases h;done));rename_i b;exact sLd_ok a b h};{rename_i a;(split at h<;>try (cases h;done));rename_i b;exact js6 a b h};{rename_i a;exact jvy a h};{rename_i a;refine jt7 ?_ a h;unfold ztOf;grind};{rename_i a;cases h;exact juf a};{rename_i a;exact jnd a h};{rename_i a;exact jj3 g a h};{rename_i a;exact jua a h};{rename_i a;exact sMk_ok a h};{rename_i a;exact jvj a h};.cases h
end
def w64(z:Int):Int:=IntKind.i64.wrap z
def wr(k:IntKind)(z:Int):Int:=k.wrap z
def z0a{α:Type}{f a:Nat}{x:α}{y z:Wal α}{G:Prop}(h:cond (Nat.beq f a) y z=some x)(b:f=a->y=some x->G)(c:z=some x->G):G:=by cases d:Nat.beq f a;{grind};simp_all
def was{ps qs:Wam PV}(h:ps=qs):RefL ps qs:=h▸RefL.refl ps
abbrev IdM:=Nm->Nat->Option (Nm×Nat)
mutual
def J8(φ:IdM):PV->PV
 |.ps id c=>match φ id c with
  |some x => .ps x.1 x.2
  |none => .unk
 |.qs id e k c=>match φ id c with
  |some x => .qs x.1 e k x.2
  |none => .unk
 |.pp id e c=>match φ id c with
  |some x => .pp x.1 e x.2
  |none => .unk
 |.fn f a b => .fn f (zhu φ a) (zhu φ b)
 |.agg d => .agg (zhu φ d)
 |.tup d => .tup (zhu φ d)
 |.u v => .u v
 |.unk => .unk
 |.sl k d => .sl k d
 |.fr t k d => .fr t k d
 |.rp d => .rp d
def zhu(φ:IdM):List PV->List PV
 |[]=>[]
 |x::a=>J8 φ x::zhu φ a
end
def ym(φ:IdM):∀a,zhu φ a=a.map (J8 φ)
 |[]=>Wab
 |x::a=>by simp[zhu,wc7,ym φ a]
def zg6{φ:IdM}{p:PV}(h:NoP p):J8 φ p=p:=by induction h with|u v=>{rfl}|agg cs h c=>{simp[J8,ym];rw[wec c,List.map_id']}|tup cs h c=>{simp[J8,ym];rw[wec c,List.map_id']}|sl k g h c=>{rfl}|fr t k g h c=>{rfl}|rp g h c=>{rfl}|fn f a b i j d e=>simp only[J8,ym];rw[wec d,wec e,List.map_id',List.map_id']
def jf0(φ:IdM)(p:PV):(J8 φ p).cells=p.cells.map (J8 φ):=by cases p with|ps id a=>{simp[J8,PV.cells,wc7,wea];grind}|qs id b k a=>{simp[J8,PV.cells,wc7,wea];grind}|pp id b a=>{simp[J8,PV.cells,wc7,wea];grind}|_=>simp[J8,PV.cells,wc7,wea,ym]
section
variable{Z:ZM}{H H1 H2:PHeap}{V V1 V2:Nm → Value}{w w0:World}{φ:IdM}
def zmy{S:Nm->Nat->Prop}{p:PV}{v:Wan}(h:Rp Z H V w p v)(s:NmAll S p)
  (hz:∀c,c<w.heap.size->¬PZ Z H V c->¬PZ Z H1 V1 c)
  (j:∀id a x,φ id a=some x->a<=(H id).ver->x.2<=(H1 x.1).ver/\((H1 x.1).body.isSome=true->(H1 x.1).ver=x.2->(H id).body.isSome=true/\(H id).ver=a/\V1 x.1=V id)):Rp Z H1 V1 w (J8 φ p) v:=by
 induction s generalizing v with
 |noP q=>rw[zg6 q];exact Rp.noP h q hz
 |unk=>simp[J8];exact .unk v
 |ps _=>
  simp[J8];split
  ·rename_i x d;cases h with
   |ps id a _ b h=>
    obtain⟨e,r⟩:=j _ _ x d b;exact .ps _ _ v e λn o=>X
  ·exact .unk v
 |qs _=>
  simp[J8];split
  ·rename_i x d;cases h with
   |qs id l k a _ b h=>
    obtain⟨e,r⟩:=j _ _ x d b;exact .qs _ _ _ _ v e λn o=>X
  ·exact .unk v
 |pp _=>
  simp[J8];split
  ·rename_i x d;cases h with
   |pp id l a _ b h=>
    obtain⟨e,r⟩:=j _ _ x d b;exact .pp _ _ _ v e λn o=>X
  ·exact .unk v
 |agg _ z=>
  simp[J8,ym];cases h with
  |agg _ m t h=>
   refine .agg _ m X λi p v f g=>?_
   grind
 |tup _ z=>
  simp[J8,ym];cases h with
  |tup _ m t h=>
   refine .tup _ m X λi p v f g=>?_
   grind
 |fn _ _ A B=>
  simp[J8,ym];cases h with
  |fn _ _ _ C vb u y D F=>
   refine .fn _ _ _ C vb X X (λi p v f g=>?_) λi p v f g=>?_
   ·grind
   grind
def z0o{α:Type}{xs:Wam α}{p:α}(h:p∈xs):∃i:Nat,xs[i]?=some p:=by obtain⟨i,a,e⟩:=List.mem_iff_getElem.1 h;exact⟨i,X⟩
def NmAll.past{S:Nm->Nat->Prop}{p:PV}{v:Wan}(h:Rp Z H V w p v)(o:NmAll S p):NmAll (λi f=>S i f/\f<=(H i).ver) p:=by induction o generalizing v with|noP t=>{exact .noP t}|unk=>{exact .unk}|ps d=>{cases h with|ps _ _ _ e _=>exact .ps ⟨d,e⟩}|qs d=>{cases h with|qs _ _ _ _ _ e _=>exact .qs ⟨d,e⟩}|pp d=>{cases h with|pp _ _ _ _ e _=>exact .pp ⟨d,e⟩}|agg _ g=>{cases h with|agg cs l q h=>refine .agg λp b=>?_;obtain⟨i,c⟩:=z0o b;have a:i<l.size:=X;exact g p b (h i p _ c (wdf a))}|tup _ g=>{cases h with|tup cs l q h=>refine .tup λp b=>?_;obtain⟨i,c⟩:=z0o b;have a:i<l.size:=X;exact g p b (h i p _ c (wdf a))}|fn _ _ j k=>cases h with|fn _ _ _ u vb r s m n=>refine .fn (λp b=>?_) λp b=>?_;{obtain⟨i,c⟩:=z0o b;have a:i<u.size:=X;exact j p b (m i p _ c (wdf a))};.obtain⟨i,c⟩:=z0o b;have a:i<vb.size:=X;exact k p b (n i p _ c (wdf a))
def Back(S:Nm->Nat->Prop)(φ:IdM)(H1 H2:PHeap)(V1 V2:Nm->Value):Prop:=∀id a,S id a->a<=(H2 id).ver/\((H2 id).body.isSome=true->(H2 id).ver=a->∃x,φ id a=some x/\(H1 x.1).body.isSome=true/\(H1 x.1).ver=x.2/\V2 id=V1 x.1)
def jph{S:Nm->Nat->Prop}{p:PV}{v:Wan}(D:NmAll S p)(h:Rp Z H1 V1 w (J8 φ p) v)(hz:∀c,c<w.heap.size->¬PZ Z H1 V1 c->¬PZ Z H2 V2 c)(r:Back S φ H1 H2 V1 V2):Rp Z H2 V2 w p v:=by induction D generalizing v with|noP A=>{rw[zg6 A]at h;exact Rp.noP h A hz}|unk=>{exact .unk v}|ps n=>{obtain⟨o,q⟩:=r _ _ n;refine .ps _ _ v o λg j=>?_;obtain⟨x,d,a,b,c⟩:=q g j;simp[J8,d]at h;cases h with|ps _ _ _ _ h=>grind}|qs n=>{obtain⟨o,q⟩:=r _ _ n;refine .qs _ _ _ _ v o λg j=>?_;obtain⟨x,d,a,b,c⟩:=q g j;simp[J8,d]at h;cases h with|qs _ _ _ _ _ _ h=>grind}|pp n=>{obtain⟨o,q⟩:=r _ _ n;refine .pp _ _ _ v o λg j=>?_;obtain⟨x,d,a,b,c⟩:=q g j;simp[J8,d]at h;cases h with|pp _ _ _ _ _ h=>grind}|fn d G t y=>{simp[J8,ym]at h;cases h with|fn _ _ _ F vb l m B C=>simp[wc0]at l m;refine .fn _ _ _ F vb l m (λi p u e f=>t p (wcq e) (B i _ u X f)) λi p u e f=>y p (wcq e) (C i _ u X f)}|agg d s=>{simp[J8,ym]at h;cases h with|agg _ z k h=>simp[wc0]at k;exact .agg _ z k λi p u e f=>s p (wcq e) (h i _ u X f)}|tup d s=>simp[J8,ym]at h;cases h with|tup _ z k h=>simp[wc0]at k;exact .tup _ z k λi p u e f=>s p (wcq e) (h i _ u X f)
def zyb{cs:Wam PV}{vs:Wam Wan}(h:RpL Z H V w cs vs)(hm:∀c∈cs,∀v,Rp Z H V w c v->Rp Z H1 V1 w (J8 φ c) v):RpL Z H1 V1 w (zhu φ cs) vs:=⟨by rw[ym,wc0];exact h.1,λi p v a d=>by
 rw[ym,wcv]at a;obtain⟨q,b,rfl⟩:=wct.1 a;exact hm q (wcq b) v (h.2 i q v b d)⟩
def jve{S:Nm->Nat->Prop}{cs:Wam PV}{vs:Wam Wan}(d:∀c∈cs,NmAll S c)(h:RpL Z H1 V1 w (zhu φ cs) vs)(hz:∀c,c<w.heap.size->¬PZ Z H1 V1 c->¬PZ Z H2 V2 c)(e:Back S φ H1 H2 V1 V2):RpL Z H2 V2 w cs vs:=⟨by have:=h.1;rw[ym,wc0]at this;omega,λi p v a b=>by
 refine jph (d p (wcq a)) (h.2 i _ v ?_ b) hz e;rw[ym,wcv,a];rfl⟩
end
abbrev IdT:=Bool->Nat->Nat->Option (Nat×Nat)
mutual
def zg7(μ:IdT):TS->TS
 |.own id g=>match μ false id g with
  |some x => .own x.1 x.2
  |none => .dead
 |.q id k e g=>match μ false id g with
  |some x => .q x.1 k e x.2
  |none => .dead
 |.pt id e g=>match μ false id g with
  |some x => .pt x.1 e x.2
  |none => .dead
 |.elt id k i e g=>match μ false id g with
  |some x => .elt x.1 k i e x.2
  |none => .dead
 |.kid id p v=>match μ true id v with
  |some x => .kid x.1 p x.2
  |none => .dead
 |.kel id p k i e v=>match μ true id v with
  |some x => .kel x.1 p k i e x.2
  |none => .dead
 |.fn f a b => .fn f (zak μ a) (zak μ b)
 |.agg h => .agg (zak μ h)
 |.tup h => .tup (zak μ h)
 |.v d => .v d
 |.c v => .c v
 |.rd d => .rd d
 |_ => .dead
def zak(μ:IdT):List TS->List TS
 |[]=>[]
 |x::a=>zg7 μ x::zak μ a
end
def BD.sane:BD->Bool
 |.rows _ _ _ _ _ h=>h.isNone
 |.mrows _ _ _ _ _ h=>h.isNone
 |.iter _ _ _ _=>false
 |_=>true
def za8(μ:IdT)(kv:Nat):BD->BD
 |.rowx a k d => .rowx a k (zak μ d)
 |.box a d => .box a (zak μ d)
 |.rows a c t l _ h => .rows a c t l kv h
 |.mrows f c t e _ h => .mrows f c t e kv h
 |b=>b
def zg5(μ:IdT)(kv:Nat)(o:Option BD):Option BD:=match o with
 |some b=>match b.sane with
  |true=>some (za8 μ kv b)
  |false=>none
 |none=>none
def ze6{μ:IdT}{kv:Nat}{o:Wal BD}{b:BD}(h:zg5 μ kv o=some b):∃a,o=some a/\a.sane=true/\b=za8 μ kv a:=by unfold zg5 at h;grind
def zyh(μ:IdT)(kv:Nat)(b:BD)(j:Nat):(za8 μ kv b).ch j=b.ch j:=by cases b<;>rfl
def zqp(μ:IdT)(kv:Nat)(b:BD):(za8 μ kv b).flat=true/\(za8 μ kv b).kv=0\/(za8 μ kv b).flat=false/\(za8 μ kv b).kv=kv:=by cases b<;>simp[za8,BD.flat,BD.kv]
def zry{μ:IdT}{ver:Nat}(o:Wal BD):(⟨ver,zg5 μ 0 o⟩:GB).cv=ver:=by unfold GB.cv;simp only;split;{rename_i b c;obtain⟨a,_,_,rfl⟩:=ze6 c;rcases zqp μ 0 a with⟨_,h⟩|⟨_,h⟩<;>rw[h]<;>rfl};rfl
def zhg(μ:IdT):IdM:=λy a=>match y with
 |.o i=>(μ false i a).map λx=>(.o x.1,x.2)
 |.c i j=>(μ true i a).map λx=>(.c x.1 j,x.2)
 |.r _=>none
def zgk(μ:IdT)(i ver:Nat):zhg μ (.o i) ver=(μ false i ver).map λx=>(.o x.1,x.2):=rfl
mutual
theorem zzj(μ:IdT):∀s:TS,(zg7 μ s).den=J8 (zhg μ) s.den
 |.v d=>by simp only[zg7,TS.den];exact(zg6 (zcj _ _)).symm
 |.c v=>by simp only[zg7,TS.den];exact(zg6 (zj4 v)).symm
 |.own id e=>by simp only[zg7,TS.den,J8,zgk];cases μ false id e<;>simp[TS.den]
 |.q id k g e=>by simp only[zg7,TS.den,J8,zgk];cases μ false id e<;>simp[TS.den]
 |.pt id g e=>by simp only[zg7,TS.den,J8,zgk];cases μ false id e<;>simp[TS.den]
 |.elt id k i g e=>by simp only[zg7,TS.den,J8,zgk];cases μ false id e<;>simp[TS.den]
 |.rd d=>by simp only[zg7,TS.den];exact(zg6 (.rp _ (za _ _))).symm
 |.kid id p v=>by simp only[zg7,TS.den,J8,zhg];cases μ true id v<;>simp[TS.den]
 |.kel id p k i g v=>by simp only[zg7,TS.den,J8,zhg];cases μ true id v<;>simp[TS.den]
 |.dead=>by simp only[zg7,TS.den,J8]
 |.fn f a b=>by simp only[zg7,TS.den,J8,zja μ a,zja μ b,ym]
 |.agg h=>by simp only[zg7,TS.den,J8,zob μ h,ym]
 |.tup h=>by simp only[zg7,TS.den,J8,zja μ h,ym]
theorem zja(μ:IdT):∀a:Wam TS,zq (zak μ a)=(zq a).map (J8 (zhg μ))
 |[]=>by simp only[zak,zq,wea]
 |x::a=>by simp only[zak,zq,wc7,zzj μ x,zja μ a]
theorem zob(μ:IdT):∀a:Wam TS,qb (zak μ a)=(qb a).map (J8 (zhg μ))
 |[]=>by simp only[zak,qb,wea]
 |x::a=>by simp only[zak,qb,wdb,zzj μ x,zob μ a,jf0]
end
def zsh(μ:IdT):∀a,(zak μ a).length=a.length
 |[]=>Wab
 |x::a=>by simp[zak,wdq,zsh μ a]
def zpx(φm:IdM):PBody->PBody
 |.row t k n cs => .row t k n (zhu φm cs)
 |.box t cs => .box t (zhu φm cs)
 |.raw p cs φ => .raw p (zhu φm cs) φ
 |.que t k n cs => .que t k n (zhu φm cs)
def zoa(φ:IdM)(bd:PBody):(zpx φ bd).cs=zhu φ bd.cs:=by cases bd<;>rfl
def zzq{φ:IdM}{bd:PBody}{w:Wao}{m:Nat}{v:Wan}{vs:Wam Wan}:(zpx φ bd).Is w m v vs↔bd.Is w m v vs:=by cases bd<;>exact Iff.rfl
def zl8(φ:IdM)(x:zm8):zm8:=⟨x.ver,x.body.map (zpx φ)⟩
def zu5:List Nat->Nat->Nat->Option Nat
 |[],_,_=>none
 |a::r,i,j=>match Nat.beq a i with
  |true=>some j
  |false=>zu5 r i (j+1)
def zmu:∀{L:Wam Nat}{i j X:Nat},zu5 L i j=some X->∃m,X=j+m/\L[m]?=some i
 |[],i,j,X,h=>by cases h
 |a::r,i,j,X,h=>by simp[zu5]at h;split at h;{simp_all};.obtain⟨m,b,c⟩:=zmu h;exact⟨m+1,U,Waa⟩
def zm4:∀{L:Wam Nat}{i j:Nat},zu5 L i j=none->i∉L
 |[],i,j,h=>Waf
 |a::r,i,j,h=>by simp[zu5]at h;split at h;{grind};.rename_i b;simp[wda,not_or];refine⟨λe=>?_,zm4 h⟩;simp_all
def zpf{L:Wam Nat}(e:L.Nodup){X i:Nat}(h:L[X]?=some i):zu5 L i 0=some X:=by
 cases a:zu5 L i 0 with
 |none=>exact absurd (wcq h) (zm4 a)
 |some Y=>
  obtain⟨m,rfl,c⟩:=zmu a;have b:=(wcl.1 h)
  have d:=(wcl.1 c)
  have:=(List.getElem_inj (h₀:=b.1) (h₁:=d.1) e).1 U;grind
def GB.at(x:GB)(c:Bool):Nat:=match c with
 |true=>x.cv
 |false=>x.ver
def mu1(L:List Nat)(a:Nat)(G:EG):IdT:=λc i b=>match zu5 L i 0 with
 |some X=>match Nat.blt X a && Nat.beq b ((G i).at c)with
  |true=>some (X,1)
  |false=>none
 |none=>none
def jay{L:Wam Nat}{a:Nat}{G:EG}{c:Bool}{i ver:Nat}{x:Nat×Nat}(h:mu1 L a G c i ver=some x):L[x.1]?=some i/\x.1<a/\ver=(G i).at c/\x.2=1:=by unfold mu1 at h;(split at h<;>try (cases h;done));rename_i X b;split at h<;>cases h;rename_i d;simp[wco,Nat.blt_eq]at d;obtain⟨m,e,f⟩:=zmu b;simp_all
def zfv(L:List Nat)(y:Nm):Bool:=match y.rt with
 |some i=>(zu5 L i 0).isSome
 |none=>false
def jol(μ:IdT):IdT:=λc i a=>match c with
 |true=>none
 |false=>μ false i a
def z0f{μ:IdT}{y:Nm}{ver:Nat}{x:Nm×Nat}(h:zhg (jol μ) y ver=some x):zhg μ y ver=some x/\∃i,y=.o i:=by cases y with|o i=>{exact⟨h,i,rfl⟩}|c i j=>{cases h}|r _=>cases h
def phG(L:List Nat)(b:Nat)(G:EG):IdM:=λy a=>match zfv L y with
 |true=>zhg (jol (mu1 L b G)) y a
 |false=>some (.r y,a)
def inG(L:List Nat)(G:EG):EG:=λX=>match L[X]? with
 |some i=>⟨1,zg5 (mu1 L L.length G) 0 (G i).b⟩
 |none=>⟨0,none⟩
def inR(L:List Nat)(b:Nat)(G:EG)(H:PHeap):PHeap:=λy=>match zfv L y with
 |true=>⟨0,none⟩
 |false=>zl8 (phG L b G) (H y)
def zom{L:Wam Nat}{y:Nm}{i:Nat}(b:y.rt=some i)(h:i∈L):zfv L y=true:=by unfold zfv;rw[b];simp only;cases a:zu5 L i 0 with|none=>{exact absurd h (zm4 a)}|some X=>rfl
def z5u{L:Wam Nat}{a:Nat}{G:EG}{y:Nm}{ver:Nat}{x:Nm×Nat}(h:zhg (mu1 L a G) y ver=some x):∃X i,(y=.o i/\x=(.o X,1)/\ver=(G i).ver\/∃j,y=.c i j/\x=(.c X j,1)/\ver=(G i).cv)/\L[X]?=some i/\X<a:=by unfold zhg at h;(split at h<;>try (cases h;done));{obtain⟨z,hz,rfl⟩:=wct.1 h;obtain⟨b,d,e,f⟩:=jay hz;exact⟨z.1,_,.inl ⟨rfl,Waa,e⟩,b,d⟩};.obtain⟨z,hz,rfl⟩:=wct.1 h;obtain⟨b,d,e,f⟩:=jay hz;exact⟨z.1,_,.inr ⟨_,rfl,Waa,e⟩,b,d⟩
def _root_.Go.Proofs.YtiafpechgjopfaaGreatDoor.L.Nm.re:Nm->Nat->Nm
 |.o _,X => .o X
 |.c _ j,X => .c X j
 |.r y,_ => .r y
def jad{Z:ZM}{g o:Wau}{q V2:Nm->Wan}{w:Wao}{μ:IdT}(hm:∀p v,Fl p->Rp Z g q w p v->Rp Z o V2 w (J8 (zhg μ) p) v){r:BD}{i X m kv y z:Nat}(B:r.sane=true)(I:∀j v,Rp Z g q w (.ps (.c i j) y) v->Rp Z o V2 w (.ps (.c X j) z) v){v:Wan}{vs:Wam Wan}(a:(r.den i y).Is w m v vs)(d:RpL Z g q w (r.den i y).cs vs):((za8 μ kv r).den X z).Is w m v vs/\RpL Z o V2 w ((za8 μ kv r).den X z).cs vs:=by
 have flat:∀{t:Ty}{l:Wam t.D}{vs},RpL Z g q w (l.flatMap (jp t)) vs->RpL Z o V2 w (l.flatMap (jp t)) vs:=λ{t l vs}h=>wal h λc A v s=>by{obtain⟨x,_,L⟩:=wdm.1 A;have C:=za t x c L;have:=hm c v (.noP C) s;rwa [zg6 C]at this};have kids:∀{n:Nat}{vs},RpL Z g q w ((range n).map (Hole.cell i y none)) vs->RpL Z o V2 w ((range n).map (Hole.cell X z none)) vs:=λ{n vs}s=>by{refine⟨by have:=s.1;grind,λj p v a d=>?_⟩;rw[wcv]at a;obtain⟨N,H,rfl⟩:=wct.1 a;exact I N v (s.2 j _ v (by rw[wcv,H];rfl) d)};have b:∀{u:Wam TS}{vs},RpL Z g q w (qb u) vs->RpL Z o V2 w (qb (zak μ u)) vs:=λ{u vs}h=>by{rw[zob,<- ym];exact zyb h λc A v s=>hm c v (zp6 u c A) s};cases r with
 |row f t l=>exact⟨a,flat d⟩
 |rowx f k u=>exact⟨by simp[za8,BD.den,zsh];exact a,b d⟩
 |box f u=>exact⟨a,b d⟩
 |obj k x=>
  obtain⟨p,φ,e⟩:=k.den_raw x;simp[za8,BD.den,e]at a d⊢;exact⟨a,d.1,λi p v a=>by trivial⟩
 |que f t l=>exact⟨a,flat d⟩
 |rows f M t l _ h=>cases h with
  |none=>exact⟨a,kids d⟩
  |some x=>cases B
 |mrows Q M t P _ h=>cases h with
  |none=>exact⟨a,kids d⟩
  |some x=>cases B
 |iter O F n G=>cases B
section
variable{P:Program}{W:Env}{n:Nat}{L:List Nat}{b:Nat}{G:EG}{H:PHeap}{V:Nm → Value}{w:World}{F:PFrame}
def inS(L:List Nat):Nm->Nm
 |.o X => .o ((L[X]?).getD 0)
 |.c X j => .c ((L[X]?).getD 0) j
 |.r y=>y
def jcx{X:Nat}{c:BD}(h:(inG L G X).b=some c):∃i a,L[X]?=some i/\(G i).b=some a/\a.sane=true/\c=za8 (mu1 L L.length G) 0 a:=by unfold inG at h;(split at h<;>try (cases h;done));obtain⟨a,d,e,f⟩:=ze6 h;grind
def jee{X i:Nat}(h:L[X]?=some i):(inG L G X).cv=1:=by unfold inG;rw[h];exact zry _
def zxq(m:∀i∈L,AgN H G i){z:Nm}{bd:PBody}(h:(qp (inG L G) (inR L b G H) z).body=some bd):
  (∃X i a,L[X]?=some i/\(G i).b=some a/\a.sane=true/\((z=.o X/\inS L z=.o i/\bd=(za8 (mu1 L L.length G) 0 a).den X 1)\/∃j,z=.c X j/\inS L z=.c i j/\a.ch j=some bd))\/∃y e,z=.r y/\zfv L y=false/\(H y).body=some e/\bd=zpx (phG L b G) e:=by
 cases z with
 |o X=>
  obtain⟨n,f,rfl⟩:=wct.1 (show(inG L G X).b.map (BD.den X (inG L G X).cv)=some bd from h);obtain⟨i,a,d,g,k,rfl⟩:=jcx f;exact .inl ⟨X,i,a,d,g,k,.inl ⟨rfl,by simp[inS,d,wdx],by rw[jee d]⟩⟩
 |c X j=>
  obtain⟨n,f,l⟩:=wdi.1 (show(inG L G X).b.bind (λb=>b.ch j)=some bd from h);obtain⟨i,a,d,g,k,rfl⟩:=jcx f;exact .inl ⟨X,i,a,d,g,k,.inr ⟨j,rfl,by simp[inS,d,wdx],by rw[<- zyh];exact l⟩⟩
 |r y=>
  have h:(inR L b G H y).body=some bd:=h;unfold inR at h;split at h
  ·grind
  ·rename_i p;simp[zl8,wct]at h
   grind
def zq0(a:∀i∈L,AgN H G i){z:Nm}(h:(qp (inG L G) (inR L b G H) z).body.isSome=true):(H (inS L z)).body.isSome=true:=by
 obtain⟨m,g⟩:=wdh.1 h;rcases zxq a g with⟨X,i,l,c,d,n,⟨rfl,e,_⟩|⟨j,rfl,e,k⟩⟩|⟨y,f,rfl,o,c,rfl⟩
 {rw[e,(a i (wcq c)).1];simp[vz,d]};{rw[e,(a i (wcq c)).2];simp[zcc,d,k]};.show(H y).body.isSome=true;grind
def jda(a:∀i∈L,AgN H G i):∀c,c<w.heap.size->¬PZ W.Z H V c->¬PZ W.Z (qp (inG L G) (inR L b G H)) (λz=>V (inS L z)) c:=λc _ h=>
 z7l (λz g hz _=>⟨_,zq0 a hz,rfl⟩) h
def jog{l:Nat}(a:∀i∈L,AgN H G i):∀id d x,zhg (mu1 L l G) id d=some x->d<=(H id).ver->x.2<=(qp (inG L G) (inR L b G H) x.1).ver/\((qp (inG L G) (inR L b G H) x.1).body.isSome=true->(qp (inG L G) (inR L b G H) x.1).ver=x.2->(H id).body.isSome=true/\(H id).ver=d/\V (inS L x.1)=V id):=λid d x h m=>by obtain⟨X,i,⟨rfl,rfl,rfl⟩|⟨j,rfl,rfl,rfl⟩,f,_⟩:=z5u h;{have k:(qp (inG L G) (inR L b G H) (.o X)).ver=1:=by{show(inG L G X).ver=1;unfold inG;grind};have e:inS L (.o X)=.o i:=by{simp[inS,f,wdx]};refine⟨Waa,λg _=>?_⟩;have:=zq0 a g;simp only[e]at this⊢;exact⟨this,by rw[(a i (wcq f)).1];rfl,trivial⟩};.have k:(qp (inG L G) (inR L b G H) (.c X j)).ver=1:=jee f;have e:inS L (.c X j)=.c i j:=by{simp[inS,f,wdx]};refine⟨Waa,λg _=>?_⟩;have:=zq0 a g;simp only[e]at this⊢;exact⟨this,by rw[(a i (wcq f)).2];rfl,trivial⟩
def jxd(c:∀i∈L,AgN H G i):∀id a x,phG L b G id a=some x->a<=(H id).ver->x.2<=(qp (inG L G) (inR L b G H) x.1).ver/\((qp (inG L G) (inR L b G H) x.1).body.isSome=true->(qp (inG L G) (inR L b G H) x.1).ver=x.2->(H id).body.isSome=true/\(H id).ver=a/\V (inS L x.1)=V id):=λid a x h d=>by unfold phG at h;split at h;{exact jog c id a x (z0f h).1 d};.rename_i j;cases h;have e:qp (inG L G) (inR L b G H) (.r id)=zl8 (phG L b G) (H id):=by{show inR L b G H id=_;unfold inR;grind};simp[e];refine⟨d,λf g=>⟨?_,g,rfl⟩⟩;simpa [zl8]using f
def z3q{S:Nm->Nat->Prop}{p:PV}(g:NmAll S p):IdOk b (J8 (phG L b G) p):=by have a:∀i d x,phG L b G i d=some x->NmOk b x.1:=λi d x h=>by{unfold phG at h;split at h;{obtain⟨h,r,e⟩:=z0f h;obtain⟨X,j,⟨rfl,rfl,_⟩|⟨_,rfl,rfl,_⟩,o,k⟩:=z5u h;{trivial};grind};.cases h;trivial};induction g with|noP h=>{rw[zg6 h];exact .noP h}|unk=>{exact .unk}|ps=>{simp[J8];split;{rename_i x c;exact .ps (a _ _ _ c)};.exact .unk}|qs=>{simp[J8];split;{rename_i x c;exact .qs (a _ _ _ c)};.exact .unk}|pp=>{simp[J8];split;{rename_i x c;exact .pp (a _ _ _ c)};.exact .unk}|fn c q m n=>{simp[J8,ym];exact .fn (λp f=>Waa) λp f=>Waa}|agg h l=>{simp[J8,ym];exact .agg λp f=>Waa}|tup h l=>simp[J8,ym];exact .tup λp f=>Waa
def inR_ok(d:∀k,FlB (H k)):RestOk b (inR L b G H):=λy i h c e=>by unfold inR at h;split at h;{grind};.simp[zl8,wct]at h;obtain⟨a,f,rfl⟩:=h;rw[zoa,ym]at e;obtain⟨q,g,rfl⟩:=wc6.1 e;exact z3q (d y a f q g)
def jvc(hn:L.Nodup)(a:∀i∈L,AgN H G i){o:Env}(hr:HRel P o H V w)(R:∀i,Fl (o.G i))(S:∀k,FlB (H k)):
  HRel P { o with G:=λi=>J8 (phG L b G) (o.G i) } (qp (inG L G) (inR L b G H)) (λz=>V (inS L z)) w:=by
 have t:∀{X i j:Nat}{q:BD}{v},L[X]?=some i->(G i).b=some q->q.sane=true->Rp o.Z H V w (.ps (.c i j) (G i).cv) v->Rp o.Z (qp (inG L G) (inR L b G H)) (λz=>V (inS L z)) w (.ps (.c X j) 1) v:=λ{X i j q v}N F hs l=>by
  cases l with
  |ps _ _ _ d f=>
   refine .ps _ _ _ (Nat.le_of_eq (jee N).symm) λm _=>?_;have D:=zq0 a m;have e:inS L (.c X j)=.c i j:=by simp[inS,N,wdx]
   simp[e]at D⊢;exact f D (by rw[(a i (wcq N)).2];rfl)
 refine HRel.ren hr (inS L) rfl rfl (λi=>zmy (hr.ghost i) (R i) (jda a) (jxd a)) (λz T F=> .inr ?_) λz z' g d f _ _ e=>?_
 ·rcases zxq a F with⟨X,i,q,d,f,m,⟨rfl,e,rfl⟩|⟨j,rfl,e,hj⟩⟩|⟨y,n,rfl,u,d,rfl⟩
  ·refine⟨q.den i (G i).cv,by rw[e,(a i (wcq d)).1];simp[vz,f],rfl,λvs A B=>?_⟩;exact jad (λp v u l=>zmy l u (jda a) (jog a)) m (λj v l=>t d f m l) A B
  ·refine⟨T,by rw[e,(a i (wcq d)).2];simp[zcc,f,hj],rfl,λvs A B=>⟨A,wal B λc Q v l=>Rp.noP l (jio hj c Q) (jda a)⟩⟩
  ·exact⟨n,d,rfl,λvs A B=>⟨zzq.2 A,by rw[zoa];exact zyb B λc Q v l=>zmy l (S y n d c Q) (jda a) (jxd a)⟩⟩
 ·obtain⟨T,F⟩:=wdh.1 d;obtain⟨a6,O⟩:=wdh.1 f;have h:∀{X i:Nat}{y k:Nm},L[X]?=some i->k.rt=some i->zfv L y=false->y=k->False:=λ{X i y k}d f m D=>by
   subst D;rw[zom f (wcq d)]at m;grind
  have a0:∀{X C i:Nat},L[X]?=some i->L[C]?=some i->X=C:=λ{X C i}d f=>by
   have m:=zpf hn d;rw[zpf hn f]at m;grind
  rcases zxq a F with⟨X,i,q,J,_,_,⟨rfl,I,_⟩|⟨j,rfl,I,_⟩⟩|⟨y,n,rfl,u,_,_⟩ <;>
   rcases zxq a O with⟨C,i',a5,s,_,_,⟨rfl,M,_⟩|⟨j',rfl,M,_⟩⟩|⟨y',Y,rfl,x,_,_⟩
  ·grind
  ·grind
  ·rw[I]at e;exact(h J rfl x e.symm).elim
  ·grind
  ·grind
  ·rw[I]at e;exact(h J rfl x e.symm).elim
  ·rw[M]at e;exact(h s rfl u e).elim
  ·rw[M]at e;exact(h s rfl u e).elim
  ·exact congrArg Nm.r e
end
def zyf:List (Nat×Nat)->Nat->Option Nat
 |[],_=>none
 |x::r,i=>match Nat.beq x.1 i with
  |true=>some x.2
  |false=>zyf r i
def jhm:List (Nat×Nat)->Nat->Option Nat
 |[],_=>none
 |x::r,i=>match Nat.beq x.2 i with
  |true=>some x.1
  |false=>jhm r i
def z0h:∀{l:Wam (Nat×Nat)}{i X:Nat},zyf l i=some X->(i,X)∈l
 |[],i,X,h=>by cases h
 |x::r,i,X,h=>by simp[zyf]at h;split at h;{rename_i a;cases h;rw[<- ql a];simp};.exact we6 _ (z0h h)
def zx1:∀{l:Wam (Nat×Nat)}{i:Nat},zyf l i=none->∀x∈l,x.1≠i
 |[],i,h,x,b=>X
 |a::r,i,h,x,b=>by simp[zyf]at h;split at h;{grind};.rename_i c;rcases wda.1 b with rfl|b;{intro e;simp_all};.exact zx1 h x b
def zy1:∀{l:Wam (Nat×Nat)}{i X:Nat},jhm l X=some i->(i,X)∈l
 |[],i,X,h=>by cases h
 |x::r,i,X,h=>by simp[jhm]at h;split at h;{rename_i a;cases h;rw[<- ql a];simp};.exact we6 _ (zy1 h)
def jl0{l:Wam (Nat×Nat)}(h:(l.map Prod.fst).Nodup){i X Y:Nat}(b:(i,X)∈l)(c:(i,Y)∈l):X=Y:=by induction l with|nil=>{grind}|cons a l d=>grind
def jld{l:Wam (Nat×Nat)}(h:(l.map Prod.snd).Nodup){i j X:Nat}(b:(i,X)∈l)(c:(j,X)∈l):i=j:=by induction l with|nil=>{grind}|cons a l d=>grind
def zc7(L:List Nat)(b:Nat)(G G':EG)(NL:List (Nat×Nat)):IdT:=λc X a=>match Nat.blt X b with
 |true=>match L[X]? with
  |some i=>match c with
   |false=>match Nat.beq a 1 with
    |true=>some (i,(G i).ver)
    |false=>none
   |true=>match Nat.beq a (G' X).cv && !(G' X).flat with
    |true=>some (i,(G i).cv+1)
    |false=>none
  |none=>none
 |false=>match jhm NL X with
  |some i=>match Nat.beq a ((G' X).at c)with
   |true=>some (i,(G i).cv+1)
   |false=>none
  |none=>none
def zv5(ν:IdT)(b:Nat)(x y:GB)(X:Nat):GB:=match Nat.blt X b && Nat.beq y.ver 1 with
 |true=>match zg5 ν (x.cv+1-x.ver) y.b with
  |some c=>match c.flat && !x.flat with
   |true=>⟨x.cv+1,none⟩
   |false=>⟨x.ver,some c⟩
  |none=>⟨x.cv+1,none⟩
 |false=>⟨x.cv+1,none⟩
def zm5(ν:IdT)(b:Nat)(x y:GB)(X:Nat):zv5 ν b x y X=⟨x.cv+1,none⟩\/∃a,X<b/\y.ver=1/\y.b=some a/\a.sane=true/\zv5 ν b x y X=⟨x.ver,some (za8 ν (x.cv+1-x.ver) a)⟩/\x.cv<=(zv5 ν b x y X).cv/\∀j,(a.ch j).isSome=true->x.cv<(zv5 ν b x y X).cv:=by
 unfold zv5;split
 .rename_i f;simp only[wco,Nat.blt_eq]at f;split
  .rename_i c i;split;{simp}
   .rename_i k;obtain⟨a,g,h,rfl⟩:=ze6 i;have m:=x.ver_le;refine .inr ⟨a,f.1,ql f.2,g,h,rfl,?_,λj l=>?_⟩
    .rcases zqp ν (x.cv+1-x.ver) a with⟨d,e⟩|⟨d,e⟩
     {rw[d]at k;rw[wa6 Waa];exact Nat.le_add_right _ _};.show x.cv<=x.ver+(za8 ν (x.cv+1-x.ver) a).kv;omega
    .rcases zqp ν (x.cv+1-x.ver) a with⟨d,e⟩|⟨d,e⟩
     {cases a<;>first|cases l|cases d};.show x.cv<x.ver+(za8 ν (x.cv+1-x.ver) a).kv;omega
  simp
 simp
def jkt(ν:IdT)(b:Nat)(G G':EG):List Nat->Nat->List (Nat×GB)
 |[],_=>[]
 |i::r,X=>(i,zv5 ν b (G i) (G' X) X)::jkt ν b G G' r (X+1)
def zwz(L:List Nat)(b:Nat)(G G':EG)(NL:List (Nat×Nat)):List (Nat×GB):=jkt (zc7 L b G G' NL) b G G' L 0++NL.map λx=>(x.1,⟨(G x.1).cv+1,zg5 (zc7 L b G G' NL) 0 (G' x.2).b⟩)
def z4j(ν:IdT)(b:Nat)(G G':EG):∀L X,(jkt ν b G G' L X).map Prod.fst=L
 |[],X=>rfl
 |i::r,X=>by simp[jkt,wc7,z4j ν b G G' r]
theorem jhu(ν:IdT)(b:Nat)(G G':EG):∀L X m i,L[m]?=some i->(i,zv5 ν b (G i) (G' (X+m)) (X+m))∈jkt ν b G G' L X
 |[],X,m,i,h=>by grind
 |a::r,X,0,i,h=>by
  simp[List.getElem?_cons_zero,wdn]at h;subst h;simp[jkt]
 |a::r,X,m+1,i,h=>by
  simp[List.getElem?_cons_succ]at h;have:=jhu ν b G G' r (X+1) m i h;rw[show X+1+m=X+(m+1) by omega]at this;exact we6 _ this
def zf4(L:Wam Nat)(b:Nat)(G G':EG)(NL:Wam (Nat×Nat)):(zwz L b G G' NL).map Prod.fst=L++NL.map Prod.fst:=by unfold zwz;rw[wdb,z4j,wd3];rfl
def Jk:∀{ws:Wam (Nat×GB)}{H:Wau}{i:Nat}{g:GB}{k:Nm},(ws.map Prod.fst).Nodup->(i,g)∈ws->k.rt=some i->qv H ws k=Qx g k
 |[],H,i,g,k,a,h,_=>X
 |x::r,H,i,g,k,a,h,b=>by simp[wc7,wfb]at a;rcases wda.1 h with rfl|h;{simp[qv];rw[zev,if_neg];{simp[zlp,b]};.intro c;obtain⟨id,d,e⟩:=Y7.1 c;grind};.simp[qv];exact Jk a.2 h b
def Q3{ws:Wam (Nat×GB)}{H:Wau}{y:Nm}(h:∀i∈ws.map Prod.fst,y.rt≠some i):qv H ws y=H y:=by rw[zev,if_neg];intro a;obtain⟨id,b,c⟩:=Y7.1 a;grind
structure zyp(L:List Nat)(b:Nat)(NL:List (Nat×Nat)):Prop where
 keys:(L++NL.map Prod.fst).Nodup
 snd:(NL.map Prod.snd).Nodup
 hi:∀x∈NL,b<=x.2
section
variable{P:Program}{W:Env}{n:Nat}{L:List Nat}{b:Nat}{NL:List (Nat × Nat)}{G G' : EG}{H:PHeap}{V V' : Nm → Value}{w:World}
def zct(L:List Nat)(NL:List (Nat×Nat)):Nm->Nm:=λy=>match y.rt with
 |some i=>match zu5 L i 0 with
  |some X=>y.re X
  |none=>match zyf NL i with
   |some X=>y.re X
   |none => .r y
 |none => .r y
abbrev zfh(L:List Nat)(b:Nat)(G G':EG)(NL:List (Nat×Nat))(H:PHeap):PHeap:=qv H (zwz L b G G' NL)
def jux(L:List Nat)(NL:List (Nat×Nat))(y:Nm):Prop:=zfv L y=false/\∀x∈NL,y.rt≠some x.1
def z7m(h:zyp L b NL)(y:Nm):
  (∃X i,y.rt=some i/\L[X]?=some i/\(∀z,z.rt=some i->zfh L b G G' NL H z=Qx (zv5 (zc7 L b G G' NL) b (G i) (G' X) X) z)/\zct L NL y=y.re X) \/
  (∃X i,y.rt=some i/\(i,X)∈NL/\(∀z,z.rt=some i->zfh L b G G' NL H z=Qx ⟨(G i).cv+1,zg5 (zc7 L b G G' NL) 0 (G' X).b⟩ z)/\zct L NL y=y.re X) \/
  (zfh L b G G' NL H y=H y/\jux L NL y/\zct L NL y=.r y):=by
 have f:((zwz L b G G' NL).map Prod.fst).Nodup:=by rw[zf4];exact h.keys
 unfold zct;cases n:y.rt with
 |none=>exact .inr (.inr ⟨Q3 λi _=>Waa,⟨by unfold zfv;grind,λx _=>Waa⟩,rfl⟩)
 |some i=>
  simp only;cases g:zu5 L i 0 with
  |some X=>
   obtain⟨m,k,c⟩:=zmu g;refine .inl ⟨X,i,rfl,Waa,λz hz=>Jk f ?_ hz,rfl⟩;unfold zwz;have:=jhu (zc7 L b G G' NL) b G G' L 0 m i c
   grind
  |none=>
   simp only;cases d:zyf NL i with
   |some X=>
    have a:=z0h d;refine .inr (.inl ⟨X,i,rfl,a,λz hz=>Jk f ?_ hz,rfl⟩);unfold zwz
    grind
   |none=>
    have k:=zm4 g;have c:=zx1 d;refine .inr (.inr ⟨Q3 λj l e=>?_,⟨by unfold zfv;grind,λx h e=>?_⟩,rfl⟩)
    ·rw[n]at e;cases e;rw[zf4]at l
     grind
    grind
def jw0(ν:IdT)(a:BD)(g:GB)(X i:Nat)(y:Nm)(bd:PBody):Prop:=(y=.o i/\y.re X=.o X/\∃kv,bd=(za8 ν kv a).den i g.cv)\/∃j,y=.c i j/\y.re X=.c X j/\a.ch j=some bd
def jdp{ν:IdT}{e:BD}{g:GB}{kv X i:Nat}{y:Nm}{bd:PBody}(f:g.b=some (za8 ν kv e))(d:y.rt=some i)(h:(Qx g y).body=some bd):jw0 ν e g X i y bd:=by cases y with|o l=>{cases d;obtain⟨m,a,rfl⟩:=wct.1 (show g.b.map (BD.den i g.cv)=some bd from h);rw[f]at a;cases a;exact .inl ⟨rfl,rfl,_,rfl⟩}|c l j=>{cases d;obtain⟨m,a,k⟩:=wdi.1 (show g.b.bind (λb=>b.ch j)=some bd from h);rw[f]at a;cases a;exact .inr ⟨j,rfl,rfl,by rw[<- zyh];exact k⟩}|r y=>cases d
def zre(o:zyp L b NL){y:Nm}{bd:PBody}(h:(zfh L b G G' NL H y).body=some bd):
  (∃X i d g,(L[X]?=some i/\X<b/\(G' X).ver=1\/(i,X)∈NL)/\(∀z,z.rt=some i->zfh L b G G' NL H z=Qx g z)/\zct L NL y=y.re X/\(G' X).b=some d/\d.sane=true/\jw0 (zc7 L b G G' NL) d g X i y bd) \/
  (zct L NL y=.r y/\jux L NL y/\(H y).body=some bd):=by
 rcases z7m o y with⟨X,i,a,j,f,k⟩|⟨X,i,a,j,f,k⟩|⟨a,j,f⟩
 ·rw[f y a]at h;rcases zm5 (zc7 L b G G' NL) b (G i) (G' X) X with e|⟨d,p,q,m,n,s,_⟩
  ·rw[e]at h;cases y<;>first|cases h|(cases a;done)
  ·exact .inl ⟨X,i,d,_,.inl ⟨j,p,q⟩,f,k,m,n,jdp (by rw[s]) a h⟩
 ·rw[f y a]at h;cases l:zg5 (zc7 L b G G' NL) 0 (G' X).b with
  |none=>rw[l]at h;cases y<;>first|cases h|(cases a;done)
  |some c=>
   obtain⟨d,m,n,rfl⟩:=ze6 l;exact .inl ⟨X,i,d,_,.inr j,f,k,m,n,jdp l a h⟩
 grind
def zsi(l:zyp L b NL){y:Nm}(h:(zfh L b G G' NL H y).body.isSome=true):(qp G' (inR L b G H) (zct L NL y)).body.isSome=true:=by
 obtain⟨n,f⟩:=wdh.1 h;rcases zre l f with⟨X,i,m,g,_,_,a,c,_,⟨_,e,_⟩|⟨j,_,e,k⟩⟩|⟨a,c,d⟩
 {rw[a,e];simp[qp,vz,c]};{rw[a,e];simp[qp,zcc,c,k]};.rw[a];show(inR L b G H y).body.isSome=true;unfold inR;rw[c.1];simp[zl8,d]
def jnp(a:zyp L b NL):∀c,c<w.heap.size->¬PZ W.Z (qp G' (inR L b G H)) V' c->¬PZ W.Z (zfh L b G G' NL H) (λy=>V' (zct L NL y)) c:=λc _ h=>z7l (λy g d _=>⟨_,zsi a d,rfl⟩) h
def jvh{ν:IdT}{x y:GB}{X:Nat}(h:y.flat=false):(zv5 ν b x y X).cv=x.cv+1:=by
 have g:=x.ver_le;unfold zv5;split
 .split
  .rename_i c e;obtain⟨a,d,i,rfl⟩:=ze6 e;have f:(za8 ν (x.cv+1-x.ver) a).flat=false:=by{unfold GB.flat at h;rw[d]at h;cases a<;>first|rfl|cases h};rcases zqp ν (x.cv+1-x.ver) a with⟨j,_⟩|⟨_,k⟩
   {grind};.rw[f];show x.ver+(za8 ν (x.cv+1-x.ver) a).kv=x.cv+1;omega
  rfl
 rfl
def z4i(f:L.Nodup)(g:zyp L b NL){c:Bool}{X ver:Nat}{x:Nat×Nat}(h:zc7 L b G G' NL c X ver=some x):
  (L[X]?=some x.1/\X<b/\(c=false/\ver=1/\x.2=(G x.1).ver\/c=true/\ver=(G' X).cv/\(G' X).flat=false/\x.2=(G x.1).cv+1))\/((x.1,X)∈NL/\ver=(G' X).at c/\x.2=(G x.1).cv+1):=by
 unfold zc7 at h;split at h
 ·rename_i d;split at h<;>try (cases h;done)
  rename_i i a;have d:X<b:=by simp_all
  split at h
  ·split at h<;>cases h;simp_all
  ·split at h<;>cases h;simp_all
 ·split at h<;>try (cases h;done)
  rename_i i a;split at h<;>cases h;rename_i e;exact .inr ⟨zy1 a,ql e,rfl⟩
def jou(u:zyp L b NL)(v:L.Nodup):∀id l x,zhg (zc7 L b G G' NL) id l=some x->l<=(qp G' (inR L b G H) id).ver->x.2<=(zfh L b G G' NL H x.1).ver/\((zfh L b G G' NL H x.1).body.isSome=true->(zfh L b G G' NL H x.1).ver=x.2->(qp G' (inR L b G H) id).body.isSome=true/\(qp G' (inR L b G H) id).ver=l/\V' (zct L NL x.1)=V' id):=λid l x h S=>by
 have d:=List.nodup_append.1 u.keys;have D:∀{X i:Nat}{y:Nm},L[X]?=some i->y.rt=some i->zfh L b G G' NL H y=Qx (zv5 (zc7 L b G G' NL) b (G i) (G' X) X) y/\zct L NL y=y.re X:=λ{X i y}q t=>by
  rcases z7m (G:=G) (G':=G') (H:=H) u y with⟨w,B,k,m,f,a⟩|⟨w,B,k,m,f,a⟩|⟨k,m,f⟩
  {rw[t]at k;cases k;have e:=zpf v q;rw[zpf v m]at e;grind};{rw[t]at k;cases k;exact absurd rfl (d.2.2 _ (wcq q) _ (wc6.2 ⟨_,m,rfl⟩))};.exact absurd (m.1.symm.trans (zom t (wcq q))) Waf
 have F:∀{X i:Nat}{y:Nm},(i,X)∈NL->y.rt=some i->zfh L b G G' NL H y=Qx ⟨(G i).cv+1,zg5 (zc7 L b G G' NL) 0 (G' X).b⟩ y/\zct L NL y=y.re X:=λ{X i y}n t=>by
  rcases z7m (G:=G) (G':=G') (H:=H) u y with⟨w,B,k,m,f,a⟩|⟨w,B,k,m,f,a⟩|⟨k,m,f⟩
  {rw[t]at k;cases k;exact absurd rfl (d.2.2 _ (wcq m) _ (wc6.2 ⟨_,n,rfl⟩))};{rw[t]at k;cases k;have:=jl0 d.2.1 n m;grind};.exact absurd t (m.2 _ n)
 have g:∀{y z:Nm},zct L NL y=z->(zfh L b G G' NL H y).body.isSome=true->(qp G' (inR L b G H) z).body.isSome=true:=λ{y z}e h=>by{have:=zsi u h;grind};cases id with
 |r y=>cases h
 |o X=>
  obtain⟨z,hz,rfl⟩:=wct.1 (show(zc7 L b G G' NL false X l).map (λx=>(Nm.o x.1,x.2))=some x from h);rcases z4i v u hz with⟨q,Q,⟨_,rfl,e⟩|⟨e,_⟩⟩|⟨A,s,e⟩
  .obtain⟨f,a⟩:=D (y :=.o z.1) q rfl;refine⟨?_,λp _=>⟨g a p,?_,by rw[a];rfl⟩⟩
   .rw[f,e];rcases zm5 (zc7 L b G G' NL) b (G z.1) (G' X) X with e|⟨I,M,N,O,P,C,_⟩
    {rw[e];exact Nat.le_succ_of_le (GB.ver_le _)};.rw[C];exact wcs _
   .rw[f]at p;rcases zm5 (zc7 L b G G' NL) b (G z.1) (G' X) X with e|⟨I,M,N,O,P,C,_⟩
    {rw[e]at p;cases p};trivial
  {grind};.obtain⟨f,a⟩:=F (y :=.o z.1) A rfl;exact⟨by rw[f,e];exact wcs _,λp _=>⟨g a p,s.symm,by rw[a];rfl⟩⟩
 |c X j=>
  obtain⟨z,hz,rfl⟩:=wct.1 (show(zc7 L b G G' NL true X l).map (λx=>(Nm.c x.1 j,x.2))=some x from h);rcases z4i v u hz with⟨q,Q,⟨e,_⟩|⟨_,rfl,R,e⟩⟩|⟨A,s,e⟩
  {grind};{obtain⟨f,a⟩:=D (y :=.c z.1 j) q rfl;exact⟨by rw[f,e];exact Nat.le_of_eq (jvh R).symm,λp _=>⟨g a p,rfl,by rw[a];rfl⟩⟩};.obtain⟨f,a⟩:=F (y :=.c z.1 j) A rfl;exact⟨by rw[f,e];exact Nat.le_of_eq (zry _).symm,λp _=>⟨g a p,s.symm,by rw[a];rfl⟩⟩
def js0(g:zyp L b NL){X i j a d:Nat}{v:Wan}(m:zct L NL (.c i j)=.c X j)(f:(qp G' (inR L b G H) (.c X j)).ver=a)(n:(zfh L b G G' NL H (.c i j)).ver=d)(h:Rp W.Z (qp G' (inR L b G H)) V' w (.ps (.c X j) a) v):Rp W.Z (zfh L b G G' NL H) (λy=>V' (zct L NL y)) w (.ps (.c i j) d) v:=by cases h with|ps _ _ _ k l=>refine .ps _ _ _ U λe _=>?_;have:=zsi g e;grind
def jr9(H:PHeap)(y:Nm)(ver:Nat):Prop:=ver<=(H y).ver
def jb5(I:zyp L b NL)(F:L.Nodup)(m:∀i∈L++NL.map Prod.fst,AgN H G i):Back (jr9 H) (phG L b G) (qp G' (inR L b G H)) (zfh L b G G' NL H) V' (λy=>V' (zct L NL y)):=λy a f=>by
 have f:a<=(H y).ver:=f;rcases z7m I y with⟨X,i,d,g,n,s⟩|⟨X,i,d,g,n,s⟩|⟨A,g,n⟩
 .have t:=wcq g;have C:=zom d t;have B:=m i (wem _ t);rw[B.at d]at f;rw[n y d];have h:(Qx (G i) y).ver<=(G i).cv:=by{cases y with|o _=>{exact GB.ver_le _}|c _ _=>{exact wcs _}|r _=>cases d};rcases zm5 (zc7 L b G G' NL) b (G i) (G' X) X with e|⟨u,O,v,w,P,q,x,z⟩
  {rw[e];refine⟨?_,λk=>by cases y<;>first|cases k|cases d⟩;cases y with|o _=>{exact Nat.le_succ_of_le (wdt f h)}|c _ _=>{exact Nat.le_succ_of_le (wdt f h)}|r _=>cases d};.cases y with|r _=>{cases d}|c M j=>{cases d;refine⟨wdt (wdt f h) x,λp l=>?_⟩;have D:(u.ch j).isSome=true:=by{rw[q]at p;simpa [Qx,zcc,zyh]using p};have:=z j D;have l:(zv5 (zc7 L b G G' NL) b (G i) (G' X) X).cv=a:=l;omega}|o M=>cases d;rw[q];refine⟨f,λp l=>⟨(.o X,1),?_,by simp[qp,vz,w],v,by show V' (zct L NL (.o i))=V' (.o X);rw[s];rfl⟩⟩;have l:(G i).ver=a:=l;unfold phG;rw[C,zgk];unfold jol mu1;simp[zpf F g];have:(Nat.blt X b && Nat.beq a ((G i).at false))=true:=by{show(Nat.blt X b && Nat.beq a (G i).ver)=true;simp_all};grind
 {rw[(m i (List.mem_append_right _ (wc6.2 ⟨_,g,rfl⟩))).at d]at f;rw[n y d];have N:(Qx (G i) y).ver<(Qx ⟨(G i).cv+1,zg5 (zc7 L b G G' NL) 0 (G' X).b⟩ y).ver:=by{cases y with|o _=>{exact Nat.lt_succ_of_le (GB.ver_le _)}|c _ _=>{show(G i).cv<GB.cv ⟨(G i).cv+1,zg5 (zc7 L b G G' NL) 0 (G' X).b⟩;rw[zry];simp}|r _=>cases d};omega};.rw[A];refine⟨f,λp l=>⟨(.r y,a),?_,?_,?_,Waa⟩⟩;{unfold phG;rw[g.1]};{show(inR L b G H y).body.isSome=true;unfold inR;rw[g.1];simp[zl8,Option.isSome_map];omega};.show(inR L b G H y).ver=a;unfold inR;rwa [g.1]
def joo(a:zyp L b NL)(M:L.Nodup)(t:∀i∈L++NL.map Prod.fst,AgN H G i){W1:Env}(hw:W1.w=W.w)(hZ:W1.Z=W.Z)(hr:HRel P W1 (qp G' (inR L b G H)) V' w)(D:∀i,Rp W.Z (zfh L b G G' NL H) (λy=>V' (zct L NL y)) w (W.G i) (W.gv i))(hf:∀k h,jux L NL k->(H k).body=some h->∀c∈h.cs,NmAll (jr9 H) c):
  HRel P W (zfh L b G G' NL H) (λy=>V' (zct L NL y)) w:=by
 have A:=List.nodup_append.1 a.keys;have hz:∀c,c<w.heap.size->¬PZ W1.Z (qp G' (inR L b G H)) V' c->¬PZ W1.Z (zfh L b G G' NL H) (λy=>V' (zct L NL y)) c:=jnp a;refine HRel.ren hr (zct L NL) hw.symm hZ.symm (λi=>Waa) (λy h u=> .inr ?_) λy y' g f d _ _ e=>?_
 ·rcases zre a u with⟨X,i,C,g,ho,D,f,d,r,z⟩|⟨f,d,r⟩
  ·rcases z with⟨rfl,e,kv,rfl⟩|⟨j,rfl,e,I⟩
   ·refine⟨C.den X (G' X).cv,by rw[f,e];simp[qp,vz,d],rfl,λN q l=>?_⟩;refine jad (λp v hp m=>zmy m hp hz (jou a M)) r (λj v m=>?_) q l;have B:zct L NL (.c i j)=.c X j:=by
     have:zct L NL (.o i)=.o X:=Waa;unfold zct at this⊢;simp[Nm.rt]at this⊢;split at this
     ·simp[Nm.re,Nm.o.injEq]at this⊢;grind
     ·split at this
      ·simp[Nm.re,Nm.o.injEq]at this⊢;grind
      grind
    exact js0 a B rfl (by rw[D _ rfl];rfl) m
   ·exact⟨h,by rw[f,e];simp[qp,zcc,d,I],rfl,λN q l=>⟨q,wal l λc hc v m=>Rp.noP m (jio I c hc) hz⟩⟩
  ·refine⟨zpx (phG L b G) h,?_,rfl,λN q l=>⟨zzq.1 q,?_⟩⟩
   ·rw[f];show(inR L b G H y).body=_;unfold inR;rw[d.1];simp[zl8,r]
   ·rw[zoa]at l;exact jve (hf y h d r) l hz (jb5 a M t)
 ·obtain⟨h,u⟩:=wdh.1 f;obtain⟨Q,x⟩:=wdh.1 d;have F:∀{X i n:Nat},(L[X]?=some i/\X<b/\(G' X).ver=1\/(i,X)∈NL)->(L[X]?=some n/\X<b/\(G' X).ver=1\/(n,X)∈NL)->i=n:=λ{X i n}f d=>by
   rcases f with⟨s,a2,_⟩|s<;>rcases d with⟨b1,b2,_⟩|b1
   ·grind
   ·have:=a.hi _ b1;omega
   ·have:=a.hi _ s;omega
   ·exact jld a.snd s b1
  rcases zre a u with⟨X,i,C,gg,o1,_,T,_,_,⟨rfl,R,_⟩|⟨j,rfl,R,_⟩⟩|⟨T,_⟩ <;>
   rcases zre a x with⟨X',n,O,J,o2,_,Y,_,_,⟨rfl,S,_⟩|⟨j',rfl,S,_⟩⟩|⟨Y,_⟩
  ·grind
  ·grind
  ·grind
  ·grind
  ·grind
  ·grind
  ·grind
  ·grind
  grind
end
def jri(xs:List TS):EF:=λs=>match xs[s]? with
 |some x=>x
 |none=>UND
def jar(xs:Wam TS):zlm (zq xs)=Ju (jri xs):=by funext t;unfold zlm Ju jri;rw[zgz,wcv];cases xs[t]? with|none=>{rfl}|some d=>rfl
theorem wcg{P:Program}{W:Env}{n:Nat}{L:List Nat}{b:Nat}{NL:List (Nat×Nat)}{G G':EG}{H:PHeap}{F:PFrame}{o:Oper}{cl:Call}{C:List TS}{f:FuncId}{fn:Func}{c:Code}{s:TS}{E':EF}{e0:Exit}
  (hd:Zc n o) (ho:o.op=.call cl) (ht:zc0 F cl=some (f,zq C)) (hg:Qi P f=true) (hf:P.funcs[f]?=some fn) (hb:fn.body=some c) (hl:C.length<=fn.ntmps) (m:FlW W F H)
  (hx:zyp L b NL) (hn:L.Nodup) (N:∀i∈L++NL.map Prod.fst,AgN H G i) (he:e0=.normal\/e0=.ret)
  (hc:∀W1 R1,GhOk b W1->RestOk b R1->PC P W1 fn.ntmps c (Ju (jri (zak (mu1 L L.length G) C))) (qp (inG L G) R1) λe F' H'=>e=e0/\F'=Ju E'/\H'=qp G' R1)
  (a8:zva P fn.results.toList E' G'=some s) :
  PE P W n o F H λp H'=>p=(zg7 (zc7 L b G G' NL) s).den/\H'=qv H (zwz L b G G' NL):=λV a w A=>by
 obtain⟨J,b7,hR⟩:=zbq ho ht hg λx d8=>Rp.eval (P:=P) x λt ht=>A.slot t;have j:∀i∈L,AgN H G i:=λi hi=>N i (wem _ hi);have S:∀i,Fl ((W.push F a).G i):=λi=>by
  simp[Env.push];split
  ·exact m.f _
  ·exact m.g _
 have r:HRel P (W.push F a) H V w:=⟨A.heap.below,A.heap.body,λi=>by
  simp only[Env.push];split
  ·exact A.slot _
  ·exact A.heap.ghost _,A.heap.apart,A.heap.zlt,A.heap.nz⟩
 have d:=jvc (b:=b) hn j r S m.h;have l:RpL W.Z (qp (inG L G) (inR L b G H)) (λz=>V (inS L z)) w (zq (zak (mu1 L L.length G) C)) J:=by
  rw[zja,<- ym];exact zyb hR λx hx v hv=>zmy hv (zrc C x hx) (jda j) (jog j)
 have a6:(zq (zak (mu1 L L.length G) C)).length=C.length:=by rw[zgz,wc0,zsh]
 have c0:=l.1;rw[a6]at c0
 let W1:Env:={ W.push F a with G:=λi=>J8 (phG L b G) ((W.push F a).G i),ds:=[] }
 have b5:GhOk b W1:=λi=>z3q (S i);have M:RestOk b (inR L b G H):=inR_ok m.h;have Q:=hc W1 (inR L b G H) b5 M;refine zjb b7 (calls_of_wp hf hb (Q (λz=>V (inS L z)) _ w _ ⟨⟨d.below,d.body,d.ghost,d.apart,d.zlt,d.nz⟩,by grind,rfl,λt=>?_⟩ λe F' H' V' a' w' hq B=>?_))
 ·rw[<- jar];unfold zlm;by_cases ht:t<(zq (zak (mu1 L L.length G) C)).length
  ·have Y:t<J.length:=by omega
   have:=l.2 t _ _ (wch ht) (wch Y);rw[wch ht];simpa [W1,Env.push,wdo,Array.getElem?_append,Y]using this
  ·have Y:¬t<J.length:=by omega
   rw[wek (by omega)];have:(J.toArray++Array.replicate (fn.ntmps-J.toArray.size) undef).getD t undef=undef:=by
    rw[wdo,Array.getElem?_append,if_neg (by omega),Array.getElem?_replicate]
    grind
   simp only[this,Option.getD_none];exact .u _
 ·obtain⟨rfl,rfl,rfl⟩:=hq;obtain⟨q,hq,c4⟩:=z7a a8;obtain⟨v,I,T⟩:=z02 B hq;have T:=c4 _ _ _ _ _ T;have a5:=B.heap;have hz:∀c,c<w'.heap.size->¬PZ W.Z (qp G' (inR L b G H)) V' c->¬PZ W.Z (zfh L b G G' NL H) (λy=>V' (zct L NL y)) c:=jnp hx;have b6:=jb5 (V':=V') (G':=G') hx hn N;have a4:∀i,Rp W.Z (zfh L b G G' NL H) (λy=>V' (zct L NL y)) w' ((W.push F a).G i) ((W.push F a).gv i):=λi=>
   jph (((S i).past (r.ghost i)).mono λ_ _ h=>h.2) (a5.ghost i) hz b6
  have hs:∀t,Rp W.Z (zfh L b G G' NL H) (λy=>V' (zct L NL y)) w' (F t) (a.tmps.getD t undef):=λt=>by
   have:=a4 (2*t);simp only[Env.push,Nat.mul_mod_right,if_true]at this
   grind
  have b8:∀i,Rp W.Z (zfh L b G G' NL H) (λy=>V' (zct L NL y)) w' (W.G i) (W.gv i):=λi=>by
   have:=a4 (2*i+1);simp[Env.push,show ¬((2*i+1) % 2=0) by omega,if_false]at this
   grind
  have O:∀k bd,jux L NL k->(H k).body=some bd->∀c∈bd.cs,NmAll (jr9 H) c:=λk bd hk a3 c hc=>by
   obtain⟨J,_,h2⟩:=A.heap.body k bd a3;obtain⟨i,hi⟩:=z0o hc;have c1:i<J.length:=by rw[<- h2.1];grind
   exact((m.h k bd a3 c hc).past (h2.2 i c _ hi (wch c1))).mono λ_ _ h=>h.2
  have R:=joo (W:=W) hx hn N (W1:=W1) rfl rfl a5 b8 O;have a7:Rel P W n F (zfh L b G G' NL H) (λy=>V' (zct L NL y)) a w':=⟨R,A.size,A.defers,hs⟩
  have c2:Rp W.Z (zfh L b G G' NL H) (λy=>V' (zct L NL y)) w' (zg7 (zc7 L b G G' NL) s).den v:=by
   rw[zzj];exact zmy T (zap s) hz (jou hx hn)
  have D:=a7.put (Below.refl _ _) o.dst hd c2;rcases he with rfl|rfl
  ·exact⟨B.defers,v,I,v,rfl,_,_,_,⟨rfl,rfl⟩,D⟩
  ·exact⟨B.defers,v,I,v,rfl,_,_,_,⟨rfl,rfl⟩,D⟩
def zk8(s:List UInt8)(p:Int):Bool:=Nat.blt p.toNat s.length
def jnv(p:Int):Int:=(p.toNat:Int)
def jgw(s:List UInt8)(p:Int):Int:=((Utf8.decode ⟨⟨s⟩⟩ p.toNat).1:Int)
def zss(s:List UInt8)(p:Int):Int:=((p.toNat+(Utf8.decode ⟨⟨s⟩⟩ p.toNat).2:Nat):Int)
def jem(P:Program)(t:TypeId)(o:Oper)(a:Nat)(G:EG)(x:TS):Option SR:=match zek P t with
 |false=>none
 |true=>match Jq o with
  |false=>none
  |true=>match Ys .str x with
   |none=>none
   |some s=>some (.mem (.own a (nv G a)) a ⟨nv G a,some (.obj .si (s,0,()))⟩ [])
def jnl(o:Oper)(G:EG)(x:TS):Option SK:=match Jq o with
 |false=>none
 |true=>match x with
  |.own id a=>match Nat.beq (G id).ver a with
   |true=>match (G id).b with
    |some (.obj .si y)=>some ⟨λk=>ifB (zk8 y.1 y.2.1) (k (.tup [.c (.bool true),.v ⟨.int .i64,jnv y.2.1⟩,.v ⟨.int .i32,jgw y.1 y.2.1⟩]) [(id,⟨a,some (.obj .si (y.1,zss y.1 y.2.1,()))⟩)] ⟨[],[id]⟩) (k (.tup [.c (.bool false)]) [] ⟨[id],[]⟩)⟩
    |_=>none
   |false=>none
  |_=>none
section
variable{P:Program}{o:Oper}{E:EF}{G:EG}{H:PHeap}{F:PFrame}{W:Env}{n:Nat}
def jmk{t:Wap}{b:Nat}{x:War}{q:SR}(r:o.op=.range t x)(h:jem P t o b G (evE E x)=some q):SOk P o E G q:=by
 have l:x∈o.op.operands:=Wak r;unfold jem at h;split at h<;>try (cases h;done)
 rename_i k;split at h<;>try (cases h;done)
 rename_i y;split at h<;>cases h;rename_i s A;have B:P.underlying t=some .string:=by{unfold zek at k;grind};refine SOk.mem λW n F H f c V a w d=>?_;have m:a.eval x=.string ⟨⟨s⟩⟩:=by{have:=Rp.eval (P:=P) x λt _=>d.slot t;rw[c.ev l,zx A]at this;generalize a.eval x=v at this;cases this;rfl};have j:(execOp a.eval o).run P w=.ok (.value (.pointer (some ⟨w.heap.size,0,none⟩))) (w.alloc (.stringIter ⟨⟨s⟩⟩ 0)):=by{simp[execOp,r,m,Instr.range,run_underlying B]};refine zh j ⟨.ps (.o b) (nv G b),H.set (.o b) ⟨(H (.o b)).ver+1,some (RK.den .si (s,0,()))⟩,zo V (.o b) (.pointer (some ⟨w.heap.size,0,none⟩)),⟨Wab,?_⟩,?_⟩;{rw[zuj c];rfl};.have u:Below w.heap.size w (w.alloc (.stringIter ⟨⟨s⟩⟩ 0)):=(Below.refl _ _).alloc (wcs _) _;refine d.turn (Turn.new d.heap u rfl λg z=>by cases z;simp) (λC e=>?_) o.dst (λt k=>f t k) ?_;{cases e;exact⟨w.heap.size,_,[],rfl,d.heap.below.size,heap_alloc_new w _,rfl,rfl,λi p v h=>Waf⟩};.refine .ps _ _ _ ?_ λ_ _=>?_;{simp[PHeap.set,zuj c]};.simp[zo]
def jwu{id ver:Nat}{y:Wam UInt8×Int×Unit}(a:G id=⟨ver,some (.obj .si y)⟩)(b:H (.o id)=vz id (G id)){V:Nm->Wan}{w:Wao}(i:HRel P W H V w){v:Wan}(j:Rp W.Z H V w (.ps (.o id) ver) v):
  ∃g,v=.pointer (some ⟨g,0,none⟩)/\V (.o id)=.pointer (some ⟨g,0,none⟩)/\W.w.heap.size<=g/\w.heap[g]?=some (.stringIter ⟨⟨y.1⟩⟩ y.2.1.toNat):=by
 have c:H (.o id)=⟨ver,some (RK.den .si y)⟩:=by rw[b,a];rfl
 obtain⟨g,o,l,e,d,f,rfl,_⟩:=i.map (.o id) true [] _ (by rw[c];rfl);cases j with
 |ps _ _ _ k h=>
  have:=h X X;exact⟨g,by rw[this,e];rfl,e,d,f⟩
def jsu{x:War}{q:SK}(ho:o.op=.next x true)(h:jnl o G (evE E x)=some q):zou P o E G q:=by
 have B:x∈o.op.operands:=Wak ho;unfold jnl at h;split at h<;>try (cases h;done)
 rename_i b2;split at h<;>try (cases h;done)
 rename_i id C hx;split at h<;>try (cases h;done)
 rename_i hv;split at h<;>cases h;rename_i y hb;have D:G id=⟨C,some (.obj .si y)⟩:=by{cases D:G id with|mk v b=>simp_all};intro β k r M;simp only at M;cases hm:zk8 y.1 y.2.1 with
 |false=>
  rw[hm]at M;refine⟨_,_,_,M,λk2=>Wab,λa8 h=>X,λW n F H Z z R S=>?_⟩;have l:Agr o E G [id] F H:=⟨R,λi hi=>S i (.inl hi)⟩
  refine waw z (waf λV a w hw hh=>?_) ⟨rfl,rfl⟩;have c:=hh x B;rw[l.ev B,hx]at c;simp[TS.den]at c;obtain⟨g,O,Q,e3,N⟩:=jwu D (l.h id Waf) hw c;have a3:¬y.2.1.toNat<y.1.length:=by{intro h;have:zk8 y.1 y.2.1=true:=by{simpa [zk8,Nat.blt_eq]using h};grind};refine⟨.tuple #[.bool false],?_,?_⟩;{have hs:¬y.2.1.toNat<(⟨⟨y.1⟩⟩:ByteArray).size:=by{assumption};simp[execOp,ho,O,Instr.next,getObj,Sem.run,N,hs]}
  .simp[TS.den,zq];exact .tup _ _ rfl λi p v m s=>by
    match i,m,s with
    |0,m,s=>cases m;cases s;exact .u _
 |true=>
  rw[hm]at M;refine⟨_,_,_,M,λk2=>Wab,λa8 h=>X,λW n F H Z z R S V a w f=>?_⟩;have l:Agr o E G [id] F H:=⟨R,λi hi=>S i (.inr (by simpa using hi))⟩
  have c:=Rp.eval (P:=P) x λt _=>f.slot t;rw[l.ev B,hx]at c;simp[TS.den]at c;have L:=l.h id Waf;obtain⟨g,O,Q,e3,N⟩:=jwu D L f.heap c;have a3:y.2.1.toNat<y.1.length:=by{simpa [zk8,Nat.blt_eq]using hm};have hs:y.2.1.toNat<(⟨⟨y.1⟩⟩:ByteArray).size:=by{assumption};have I:H (.o id)=⟨C,some (RK.den .si y)⟩:=by{rw[L,D];rfl};have hl:(H (.o id)).body.isSome=true:=by{rw[I];rfl};have a0:=(wde.1 N).1;have d:∀o b,b≠g->(w.heap.setIfInBounds g o)[b]?=w.heap[b]?:=λo b a5=>by{simp[Ne.symm a5]};have Y:(execOp a.eval o).run P w=.ok (.value (.tuple #[.bool true,.int .i64 (y.2.1.toNat:Int),.int .i32 ((Utf8.decode ⟨⟨y.1⟩⟩ y.2.1.toNat).1:Int)])) { w with heap:=w.heap.setIfInBounds g (.stringIter ⟨⟨y.1⟩⟩ (y.2.1.toNat+(Utf8.decode ⟨⟨y.1⟩⟩ y.2.1.toNat).2)) }:=by{simp[execOp,ho,O,Instr.next,getObj,setObj,Sem.run,N,hs,goInt]};have A:Turn W H V w (.o id) ⟨C,some (RK.den .si (y.1,zss y.1 y.2.1,()))⟩ (V (.o id)) { w with heap:=w.heap.setIfInBounds g (.stringIter ⟨⟨y.1⟩⟩ (y.2.1.toNat+(Utf8.decode ⟨⟨y.1⟩⟩ y.2.1.toNat).2)) }:=
   ⟨f.heap.below.trans ⟨rfl,rfl,rfl,Waf,λb hb=>d _ b U⟩,Waf,λb hb hn=>d _ b λe=>hn ⟨hl,by rw[e,Q];rfl⟩,λg' J=> .inr ⟨hl,J⟩,.inr ⟨by rw[I],rfl,hl⟩⟩
  refine zh Y ⟨_,_,zo V (.o id) (V (.o id)),⟨rfl,z42 rfl λj=>by rw[(l.hn id Waf).2,D];rfl⟩,f.turn A (λbd T=>?_) o.dst z ?_⟩;{cases T;exact⟨g,.stringIter ⟨⟨y.1⟩⟩ (y.2.1.toNat+(Utf8.decode ⟨⟨y.1⟩⟩ y.2.1.toNat).2),[],Q,e3,by simp[a0],Wab,rfl,λi p v h=>Waf⟩}
  .simp only[TS.den,zq];exact .tup _ _ rfl λi p v m s=>by
    match i,m,s with
    |0,m,s=>cases m;cases s;exact .u _
    |1,m,s=>cases m;cases s;exact .u _
    |2,m,s=>cases m;cases s;exact .u _
end
def stK(P:Program)(q:Option SR)(a:Nat)(o:Oper)(E:EF)(G:EG):Option SK:=match o.op with
 |.next x true=>jnl o G (evE E x)
 |.range t x=>match jem P t o a G (evE E x)with
  |some q=>some (q.k G)
  |none=>none
 |_=>match q with
  |some q=>some (q.k G)
  |none=>none
def stK_ok{P:Waq}{q:Wal SR}{c:Nat}{o:Oper}{E:EF}{G:EG}(d:∀x,q=some x->SOk P o E G x){r:SK}(h:stK P q c o E G=some r):zou P o E G r:=by unfold stK at h;split at h;{rename_i x a;exact jsu a h};{rename_i t x a;split at h<;>cases h;rename_i e b;exact(jmk a b).k};.split at h<;>cases h;exact(d _ rfl).k
def zun(a:List Nat)(keep:Bool):List Nat->Nat->List Nat
 |[],_=>[]
 |i::r,j=>match eqb (znc a j) keep with
  |true=>zun a keep r (j+1)
  |false=>i::zun a keep r (j+1)
def zmj:List Nat->Bool
 |[]=>true
 |x::r=>!(znc r x) && zmj r
def ziy:∀{l:Wam Nat},zmj l=true->l.Nodup
 |[],_=>List.nodup_nil
 |x::r,h=>by simp[zmj,wco,wd6]at h;refine wfb.2 ⟨λa=>?_,ziy h.2⟩;rw[zi3.2 a]at h;grind
def from_(b:Nat):List Nat->List Nat
 |[]=>[]
 |x::r=>match Nat.ble b x with
  |true=>x::from_ b r
  |false=>from_ b r
def numL:Nat->List Nat->List (Nat×Nat)
 |_,[]=>[]
 |i,x::r=>(i,x)::numL (i+1) r
def upTo:Nat->Nat->List Nat
 |0,_=>[]
 |m+1,i=>i::upTo m (i+1)
def jbz(L:List Nat)(b:Nat)(a:List (Nat×Nat)):Bool:=zmj (L++a.map Prod.fst) && zmj (a.map Prod.snd) && a.all λx=>Nat.ble b x.2
def jac{L:Wam Nat}{b:Nat}{a:Wam (Nat×Nat)}(h:jbz L b a=true):zyp L b a:=by unfold jbz at h;simp only[wco,wdu]at h;exact⟨ziy h.1.1,ziy h.1.2,λx c=>wej (h.2 x c)⟩
def liveUp(G:EG)(b:Nat):List Nat:=zd4 G ((upTo b 0).map λX=>(X,1))
def newL(b a:Nat)(G':EG)(s:TS):Option (List (Nat×Nat)):=match reach G' 1000 (zd4 G' (idvT s)++liveUp G' b) []with
 |some c=>some (numL a (from_ b c))
 |none=>none
structure IE where
 f:FuncId
 n:Nat
 rs:List ResultVar
 c:Code
 hint:Nat->Option HK
 ctx:Nat
 un:List Nat
def ji2(P:Program)(x:IE):Prop:=∃fn,P.funcs[x.f]?=some fn/\fn.body=some x.c/\fn.ntmps=x.n/\fn.results.toList=x.rs/\Qi P x.f=true
def inlX{β:Type}(P:Program)(x:IE)(L:List Nat)(b f:Nat)(G:EG)(k:TS->List (Nat×GB)->RT->Option β):EK β:=λe g c a=>match e with
 |.normal=>inlR c a
 |.ret=>inlR c a
 |_=>none
where
 inlR (c:EF) (a:EG):Option β:=match zva P x.rs c a with
  |none=>none
  |some s=>match newL b f a s with
   |none=>none
   |some d=>match jbz L b d with
    |true=>k (zg7 (zc7 L b G a d) s) (zwz L b G a d) ⟨[],L++d.map Prod.fst⟩
    |false=>none
def jnz(P:Program)(g:SyT)(fuel:Nat)(x:IE)(e:Call)(d:Nat)(E:EF)(G:EG):Option SK:=match zvh E e with
 |none=>none
 |some (f,b)=>match Nat.beq f x.f && Nat.ble b.length x.n with
  |false=>none
  |true=>match reach G 1000 (zd4 G (zkg b)) []with
   |none=>none
   |some a=>match zun x.un true a 0 with
    |L0=>match L0++zun x.un false a 0 with
     |L=>match zmj L with
      |false=>none
      |true=>some ⟨λk=>vq g fuel x.hint x.ctx L0.length x.n x.c 1 L.length (jri (zak (mu1 L L.length G) b)) (inG L G) (inlX P x L L0.length d G k)⟩
def z5f{β:Type}{P:Waq}{x:IE}{L:Wam Nat}{b c:Nat}{G:EG}{k:TS->Wam (Nat×GB)->RT->Wal β}{e:Exit}{nx:Nat}{f:EF}{G':EG}{r:β}(h:inlX P x L b c G k e nx f G'=some r):
  (e=.normal\/e=.ret)/\∃s a,zva P x.rs f G'=some s/\jbz L b a=true/\k (zg7 (zc7 L b G G' a) s) (zwz L b G G' a) ⟨[],L++a.map Prod.fst⟩=some r /\
   ∀{γ:Type}(d:TS->Wam (Nat×GB)->RT->Wal γ),inlX P x L b c G d e nx f G'=d (zg7 (zc7 L b G G' a) s) (zwz L b G G' a) ⟨[],L++a.map Prod.fst⟩:=by
 have g:∀{β:Type}{k:TS->Wam (Nat×GB)->RT->Wal β}{r:β},inlX.inlR P x L b c G k f G'=some r->∃s a,zva P x.rs f G'=some s/\jbz L b a=true/\k (zg7 (zc7 L b G G' a) s) (zwz L b G G' a) ⟨[],L++a.map Prod.fst⟩=some r /\
   ∀{γ:Type}(d:TS->Wam (Nat×GB)->RT->Wal γ),inlX.inlR P x L b c G d f G'=d (zg7 (zc7 L b G G' a) s) (zwz L b G G' a) ⟨[],L++a.map Prod.fst⟩:=by
  intro β k r h;unfold inlX.inlR at h;split at h<;>try (cases h;done)
  rename_i s n;split at h<;>try (cases h;done)
  rename_i a p;split at h<;>try (cases h;done)
  rename_i o;exact⟨s,a,n,o,h,λd=>by unfold inlX.inlR;grind⟩
 unfold inlX at h;split at h
 ·obtain⟨s,a,i,j,l,m⟩:=g h;exact⟨.inl rfl,s,a,i,j,l,λd=>by unfold inlX;grind⟩
 ·obtain⟨s,a,i,j,l,m⟩:=g h;exact⟨.inr rfl,s,a,i,j,l,λd=>by unfold inlX;grind⟩
 grind
def z71{P:Waq}{D:SyT}(y:zwp P D)(hm:P.follows .mixedOrders=true){fuel:Nat}{x:IE}(hx:ji2 P x){o:Oper}{A:Call}(B:o.op=.call A){z:Nat}{E:EF}{G:EG}{q:SK}(h:jnz P D fuel x A z E G=some q):zou P o E G q:=by
 obtain⟨fn,T,Q,hn,hr,Z⟩:=hx;unfold jnz at h;split at h<;>try (cases h;done)
 rename_i f az ht;split at h<;>try (cases h;done)
 rename_i a;simp only[wco]at a;have g:=ql a.1;have Y:=wej a.2;subst g;split at h<;>try (cases h;done)
 rename_i C w;simp only at h;split at h<;>try (cases h;done)
 rename_i t;cases h;intro β k r J;obtain⟨e,a4,E',G',M,hu,u⟩:=ze hm y x.c 1 _ _ _ _ _ J;obtain⟨S,s,NL,hs,d,p,a2⟩:=z5f M;refine⟨_,_,_,p,λk2=>?_,λid m=>by rw[zf4]at m;omega,λW n F H j R N O=>?_⟩;{grind}
 .have b:Agr o E G [] F H:=⟨N,λid h=>X⟩
  refine wcg R B (zjd B b ht) Z T Q U j (jac d) (ziy t) (λi hi=>O i (.inr (by rw[zf4];omega))) S (λL I l v=>by rw[hn];exact u L I l v) ?_;grind
def jm2(it:Nat->Nat->FuncId->Option IE)(b a:Nat)(o:Oper)(E:EF):Option (IE×Call):=match o.op with
 |.call c=>match zvh E c with
  |some (f,_)=>match it b a f with
   |some x=>some (x,c)
   |none=>none
  |none=>none
 |_=>none
def je8{it:Nat->Nat->Wat->Wal IE}{b a:Nat}{o:Oper}{E:EF}{x:IE×Call}(h:jm2 it b a o E=some x):o.op=.call x.2/\∃b a f,it b a f=some x.1:=by unfold jm2 at h;grind
def wp_put{P:Waq}{o:Oper}{a:Act}{w:Wao}{K:Act->Wao->Prop}{Q:Exit->Act->Wao->Prop}(b:o.wp P a w K Q):o.wp P a w (λd c=>K d c/\∃v e,d = { a with defers:=e }.put o.dst v) Q:=by
 unfold Oper.wp at *;generalize (execOp a.eval o).run P w=r at *;cases r with
 |ok n c=>
  cases n<;>simp[Oper.upon]at b⊢ <;>
   first
    |exact⟨b,_,_,rfl⟩
    |grind
    |grind
    |grind
 |halt x c=>cases x<;>simp[Oper.upon]at b⊢<;>exact b
def put_at{a:Act}{ds:Wam Deferred}{d:Wal Nat}{v:Wan}{t:Nat}(h:d≠some t):({ a with defers:=ds }.put d v:Act).tmps.getD t undef=a.tmps.getD t undef:=by cases d with|none=>{rfl}|some d=>have e:d≠t:=λe=>h (by rw[e]);simp[Act.put,we3 e]
def jdh(D:List Nat):Nm->Bool:=λy=>match y.rt with
 |some i=>znc D i
 |none=>false
def zzf:List (Nat×Ty)->Nat->Option Ty
 |[],_=>none
 |x::r,t=>match Nat.beq x.1 t with
  |true=>some x.2
  |false=>zzf r t
def jte(D:List Nat)(sl:List (Nat×Ty))(E:EF)(G:EG):EF:=λt=>match zzf sl t with
 |none=>E t
 |some ty=>match Qu (zb8 D G) ty (E t)with
  |some x => .v ⟨ty,x⟩
  |none=>E t
def SR.frz(D:List Nat)(q:SR):SR:={ q with fz:=D }
section
variable{P:Program}{W:Env}{n:Nat}{F:PFrame}{H:PHeap}{o:Oper}{E:EF}{G:EG}{D:List Nat}
def zcd(f:∀id∈D,AgN H G id):jgm H (qv H (zh4 D G)) (jdh D):=λy=>by have d:∀i,y.rt=some i->i∈D->(qv H (zh4 D G) y).body=none/\(H y).ver<=(qv H (zh4 D G) y).ver:=λi c b=>by{have g:zil D G i=⟨(G i).cv+1,none⟩:=by{unfold zil;rw[zi3.2 b]};rw[(jgl (.inl b)).at c,g,(f i b).at c];cases y<;>cases c;{exact⟨rfl,Nat.le_succ_of_le (GB.ver_le _)⟩};.exact⟨rfl,Nat.le_succ _⟩};refine⟨λa=>Q3 λi b e=>?_,λa=>?_⟩;{rw[zdo]at b;unfold jdh at a;rw[e]at a;simp only[zi3.2 b]at a;grind};.unfold jdh at a;split at a;{rename_i i c;exact d i c (zi3.1 a)};grind
def jvf{id:Nat}(h:AgN H (zb8 D G) id)(d:((zb8 D G) id).b.isSome=true):AgN (H.only (jdh D)) (zb8 D G) id:=by have c:znc D id=true:=by{cases c:znc D id with|true=>{rfl}|false=>unfold zb8 at d;grind};refine wbi λk a=>?_;unfold PHeap.only jdh;rw[a];simp[c,if_true];exact h.at a
open Classical in
theorem SOk.frz{sl:List (Nat×Ty)}{q:SR}(A:q.fz=[])(h:SOk P o (jte D sl E G) (zil D G) q):SOk P o E G (q.frz D):=by
 obtain⟨I,h2⟩:=h;refine⟨I,λx Y W n F H l hd M O V a w r=>?_⟩;have m:∀id∈D,AgN H G id:=λid d=>O id (.inr (.inr d));have hq:∀id,id∈q.rd\/id∈q.tc\/id∈q.fz->AgN (qv H (zh4 D G)) (zil D G) id:=λid d=>by
  refine jgl ?_;rcases d with d|d|d
  ·exact .inr (O id (.inl d))
  ·exact .inr (O id (.inr (.inl d)))
  ·rw[A]at d;cases d
 let C:PFrame:=λt=>match zzf sl t with
  |none=>F t
  |some ty=>match Qu (zb8 D G) ty (E t)with
   |some x=>if Operand.tmp t∈o.op.operands then enc ty x else F t
   |none=>F t
 have N:∀t,Operand.tmp t∈o.op.operands->C t=(jte D sl E G t).den:=λt T=>by
  show(match zzf sl t with|none=>F t|some ty=>match Qu (zb8 D G) ty (E t)with|some x=>if Operand.tmp t∈o.op.operands then enc ty x else F t|none=>F t)=_;unfold jte;cases zzf sl t with
  |none=>exact M t T
  |some ty=>
   simp only;cases Qu (zb8 D G) ty (E t)with
   |none=>exact M t T
   |some x=>simp only[if_pos T,TS.den]
 let s:Env:=W.push F a
 have y:FlW s C (qv H (zh4 D G)):=by
  refine⟨λi=>?_,λt=>?_,λk bd hb c hc=>?_⟩
  ·simp only[s,Env.push];split
   ·exact l.f _
   ·exact l.g _
  ·show Fl (match zzf sl t with|none=>F t|some ty=>match Qu (zb8 D G) ty (E t)with|some x=>if Operand.tmp t∈o.op.operands then enc ty x else F t|none=>F t);split
   ·exact l.f t
   ·split
    ·split
     ·exact .noP (zcj _ _)
     ·exact l.f t
    ·exact l.f t
  ·exact l.h k bd (ztw (zcd m) hb).2 c hc
 have B:Rel P s n C (qv H (zh4 D G)) V a w:=by
  refine⟨?_,r.size,r.defers,λt=>?_⟩
  ·have z:=r.heap.less (zcd m);refine⟨z.below,z.body,λi=>?_,z.apart,z.zlt,z.nz⟩;simp only[s,Env.push];split
   ·exact(r.slot _).less (zcd m)
   ·exact(r.heap.ghost _).less (zcd m)
  ·show Rp W.Z (qv H (zh4 D G)) V w (match zzf sl t with|none=>F t|some ty=>match Qu (zb8 D G) ty (E t)with|some x=>if Operand.tmp t∈o.op.operands then enc ty x else F t|none=>F t) _;split
   ·exact(r.slot t).less (zcd m)
   ·rename_i ty b2;split
    ·rename_i x Y;split
     ·rename_i R;have hv:=(Zq (H:=H.only (jdh D)) (λid hs=>?_) ty (E t) x Y).1
      ·have I:=(r.slot t).only (D:=jdh D);rw[M t R]at I;have L:=hv P (W.kept H V (jdh D)) V w r.heap.only _ I;refine L.noP (zcj _ _) (λb _ hz u=>hz (J9.2 ?_)) (wcs _);rcases u with u|⟨id,L,h4⟩
       ·exact .inl u
       ·exact .inr ⟨id,(zdi (zcd m) L).1,(zdi (zcd m) L).2,h4⟩
      ·refine jvf (zmk m id hs) hs
     ·exact(r.slot t).less (zcd m)
    ·exact(r.slot t).less (zcd m)
 have S:=h2 x Y s n C (qv H (zh4 D G)) y hd N hq V a w B;refine Oper.wp_mono (λa' w'⟨⟨p,H',V',⟨hp,Q⟩,j⟩,v,ds,ha⟩=>?_) (wp_put S);refine⟨p,H',V',⟨hp,?_⟩,?_⟩
 ·rw[Q];show znu (qv (qv H (zh4 D G)) (zh4 q.fz (zil D G))) (q.w x)=znu (qv H (zh4 D G)) (q.w x);rw[A];rfl
 ·have J:=j.heap.ghost;refine⟨⟨j.heap.below,j.heap.body,λi=>?_,j.heap.apart,j.heap.zlt,j.heap.nz⟩,j.size,j.defers,λt=>?_⟩
  ·have:=J (2*i+1);simp only[s,Env.push,show ¬((2*i+1) % 2=0) by omega,if_false]at this;rwa [show(2*i+1) / 2=i by omega]at this
  ·by_cases e:o.dst=some t
   ·have:=j.slot t;simp only[PFrame.put,if_pos e]at this⊢;exact this
   ·simp only[PFrame.put,if_neg e];have:=J (2*t);simp only[s,Env.push,Nat.mul_mod_right,if_true]at this;rw[show 2*t / 2=t by omega]at this;rw[ha,put_at e];exact this
end
def jsn(P:Program)(d:Nat->Prm)(fz:Nat->Nat->List (Nat×Ty)):Sy1:=λa c b o E G=>match fz a b with
 |[]=>ji0 P (d a) a c b o E G
 |sl=>match reach G 1000 (zd4 G (zkg (sl.map λx=>E x.1))) []with
  |none=>none
  |some D=>match zmj D with
   |false=>none
   |true=>match ji0 P (d a) a c b o (jte D sl E G) (zil D G)with
    |some q=>match q.fz with
     |[]=>some (q.frz D)
     |_=>none
    |none=>none
def jro{P:Waq}{a:Nat->Prm}{fz:Nat->Nat->Wam (Nat×Ty)}(j:∀c,Y4 P (a c).S)(f:∀c,zh8 P (a c).zt)(b:∀c,zh8 P (a c).zt2):∀e g d o E G q,jsn P a fz e g d o E G=some q->SOk P o E G q:=λe g d o E G q h=>by unfold jsn at h;split at h;{exact jc1 (j _) (f _) (b _) _ _ _ _ _ _ _ h};{(split at h<;>try (cases h;done));rename_i D k;(split at h<;>try (cases h;done));(split at h<;>try (cases h;done));rename_i l i;split at h<;>cases h;rename_i hz;exact SOk.frz hz (jc1 (j _) (f _) (b _) _ _ _ _ _ _ _ i)}
def flatI(l:Wam Int):l.flatMap (jp (.int .i64))=l.map I:=by induction l with|nil=>{rfl}|cons a l b=>rw[wdj,b];rfl
def jc8(i tid v:Nat)(l:Wam Int):vz i ⟨v,some (.row tid (.int .i64) l)⟩=⟨v,some (.row tid 1 l.length (l.map I))⟩:=
 congrArg (λcs=>(⟨v,some (.row tid 1 l.length cs)⟩:zm8)) (flatI l)
def z06(G:EG)(x:TS):Option (Nat×Nat×List Int):=match x with
 |.own id a=>match Nat.beq (G id).ver a with
  |true=>match (G id).b with
   |some (.row c t l)=>match Nat.beq c 3 with
    |true=>match Dyn.as ⟨.sl t,l⟩ (.sl (.int .i64))with
     |some l=>some (id,a,l)
     |none=>none
    |false=>none
   |_=>none
  |false=>none
 |_=>none
def zsa{G:EG}{x:TS}{r:Nat×Nat×Wam Int}(h:z06 G x=some r):x=.own r.1 r.2.1/\G r.1=⟨r.2.1,some (.row 3 (.int .i64) r.2.2)⟩:=by
 unfold z06 at h;split at h<;>try (cases h;done)
 rename_i id e;split at h<;>try (cases h;done)
 rename_i j;split at h<;>try (cases h;done)
 rename_i d t l g;split at h<;>try (cases h;done)
 rename_i i;split at h<;>cases h;rename_i k c;have:=wag c;injection this with e1 a;injection e1 with e1;subst e1;have a:=eq_of_heq a;subst a;refine⟨rfl,?_⟩;simp only;cases f:G id with|mk v b=>simp_all
def jlb(l:List Int):BD :=.row 3 (.int .i64) l
def jww(o:Oper)(a:Nat)(G:EG)(f:FuncId)(x:TS):Option SR:=match Nat.beq f 243 with
 |true=>match z06 G x with
  |some r=>some ⟨List Int,false,small7 r.2.2 (zeg r.2.2),λ_=> .c (.tuple #[]),λb=>[(r.1,⟨r.2.1,some (jlb b)⟩)],[],[r.1],[]⟩
  |none=>none
 |false=>match Nat.beq f 244 with
  |true=>match z06 G x with
   |some r=>some ⟨List Int,false,small7 r.2.2 (Zi r.2.2),λ_=> .own r.1 (r.2.1+1),λb=>[(r.1,⟨r.2.1+1,some (jlb b)⟩)],[],[r.1],[]⟩
   |none=>none
  |false=>match Nat.beq f 33 with
   |true=>match Jq o with
    |true=>match zzh x with
     |true=>match toT (.sl (.int .i64)) x with
      |some l=>some ⟨List Int,false,small7 l l,λ_=> .own a ((G a).ver+1),λb=>[(a,⟨(G a).ver+1,some (jlb b)⟩)],[],[a],[]⟩
      |none=>none
     |false=>match z06 G x with
      |some r=>match Nat.beq r.1 a with
       |true=>none
       |false=>some ⟨List Int,false,small7 r.2.2 r.2.2,λ_=> .own a ((G a).ver+1),λb=>[(a,⟨(G a).ver+1,some (jlb b)⟩)],[r.1],[a],[]⟩
      |none=>none
    |false=>none
   |false=>none
def zaq{α:Type}(l:List α)(z:Int):Option (List α):=match decide (0<=z) && decide (z<=l.length)with
 |true=>some (l.take z.toNat)
 |false=>none
def jgs(es:Option Nat)(o:Oper)(G:EG)(x y:TS):Option SR:=match Jq o with
 |false=>none
 |true=>match x with
  |.own id a=>match Nat.beq (G id).ver a with
   |true=>match (G id).b with
    |some (.row c t l)=>match oeq es (some (wid t))with
     |true=>yl (zgy y) λz=>some ⟨List t.D,false,zaq l z,λ_=> .own id (a+1),λd=>[(id,⟨a+1,some (.row c t d)⟩)],[],[id],[]⟩
     |false=>none
    |_=>none
   |false=>none
  |_=>none
def jqa(ty:TypeId)(x i:TS):Option SR:=match x with
 |.v ⟨.arr n t,a⟩=>match arr Tryz.prog ty with
  |some (d,k)=>match jnn Tryz.prog ty with
   |some e=>match asz Tryz.prog e with
    |some (b,c)=>match Nat.beq d n && Nat.beq k (wid t) && Nat.beq c k && (b ||Nat.beq k 1)with
     |true=>yl (zgy i) λz=>some (.dat t.D (atL a.l z) (λy=>zeh b [.v ⟨t,y⟩]) [])
     |false=>none
    |none=>none
   |none=>none
  |none=>none
 |_=>none
def sLib(o:Oper)(a:Nat)(E:EF)(G:EG):Option SR:=match o.op with
 |.index t x i=>jqa t (evE E x) (evE E i)
 |.slice t x none (some y) none=>jgs (esz Tryz.prog t) o G (evE E x) (evE E y)
 |.call ⟨.value (.func f),⟨[x]⟩,_⟩=>jww o a G f (evE E x)
 |_=>none
section
variable{P:Program}{o:Oper}{E:EF}{G:EG}
def jms{ty:Wap}{x i:War}{q:SR}(A:o.op=.index ty x i)(h:jqa ty (evE E x) (evE E i)=some q):SOk Tryz.prog o E G q:=by
 have D:x∈o.op.operands:=Wak A;have r:i∈o.op.operands:=Wak A;unfold jqa at h;split at h<;>try (cases h;done)
 rename_i n t a P;split at h<;>try (cases h;done)
 rename_i S k m;split at h<;>try (cases h;done)
 rename_i e j;split at h<;>try (cases h;done)
 rename_i ag Y O;split at h<;>try (cases h;done)
 rename_i I;simp only[wco]at I;obtain⟨⟨⟨d,f⟩,g⟩,T⟩:=I;have d:=ql d;have f:=ql f;have g:=ql g;subst d;subst f;subst g;obtain⟨z,hz,h⟩:=jz h;cases h;obtain⟨R,s⟩:=Zp hz;refine SOk.dat λy Q W F H b=>?_;obtain⟨h0,c⟩:=Zv Q;obtain⟨L,N⟩:=zft (jp t) (wid t) a.l (λx _=>ju t x) _ _ c;obtain⟨p,B,C⟩:=jiw (ag:=ag) (k:=wid t) (xs:=[.v ⟨t,y⟩]) (by simp[qb,TS.den,enc_cells,wc1,ju]) (λe=>by simp_all);refine PQ.ref (qm ?_) C;unfold Yp;rw[A];simp only;rw[b.ev D,b.ev r,s,P];simp[TS.den];have w:z.toNat<S:=by{have:=(wcl.1 c).1;rw[a.h]at this;omega};have M:qb [.v ⟨t,y⟩]=jp t y:=by{simp[qb,TS.den,enc_cells,wc1]};rw[M,<- N]at B;show zof Tryz.prog ty (.agg (a.l.flatMap (jp t))) (.u (.int R z))=some p;unfold zof;simp only[m,j];rw[if_pos ⟨h0,w⟩];unfold z4m;grind
def jjo{t:Wap}{x y:War}{q:SR}(m:o.op=.slice t x none (some y) none)(h:jgs (esz Tryz.prog t) o G (evE E x) (evE E y)=some q):SOk Tryz.prog o E G q:=by
 have e:∀{F:Wav}{z:War},z∈o.op.operands->(∀t,Operand.tmp t∈o.op.operands->F t=(E t).den)->evP F z=(evE E z).den:=λ{F z}hz f=>(Agr.mk (rd:=[]) (G:=G) (H:=PHeap.empty) f (λid h=>X)).ev hz;unfold jgs at h;split at h<;>try (cases h;done)
 rename_i a;obtain⟨d,a⟩:=yk a;split at h<;>try (cases h;done)
 rename_i id D B;split at h<;>try (cases h;done)
 rename_i p;have p:=ql p;split at h<;>try (cases h;done)
 rename_i C ty l u;split at h<;>try (cases h;done)
 rename_i b;have b:=zjt b;obtain⟨z,hz,h⟩:=jz h;cases h;obtain⟨N,i⟩:=Zp hz;refine⟨λ_=>rfl,λO k W n F H w v f s=>?_⟩;unfold zaq at k;split at k<;>cases k;rename_i g;simp[wco,wc9]at g;obtain⟨j,rfl⟩:∃j:Nat,z=j:=⟨z.toNat,U⟩
 have A:j<=l.length:=U;have c:=s id (.inr V);refine wcb m a (v d a) b (by rw[e (by rw[m];simp[Op.operands]) f,B];rfl) (Js c.1 u rfl p) (by rw[e (by rw[m];simp[Op.operands]) f,i]) A ⟨Wab,?_⟩;show _=H.set (.o id) (vz id _);simp[vz,wc5,BD.den,wcy];have r:(l.take j).length=j:=X;have I:(l.flatMap (jp ty)).take (j*wid ty)=(l.take j).flatMap (jp ty):=by{have L:l.flatMap (jp ty)=(l.take j).flatMap (jp ty)++(l.drop j).flatMap (jp ty):=by{rw[<- wer,wd2]};have M:((l.take j).flatMap (jp ty)).length=j*wid ty:=by{rw[J4 _ (wid ty) _ λx _=>ju ty x,r]};grind};grind
def jvl{a:Nat}{q:SR}(h:sLib o a E G=some q):SOk Tryz.prog o E G q:=by unfold sLib at h;(split at h<;>try (cases h;done));{rename_i D;exact jms D h};{rename_i D;exact jjo D h};rename_i f x ts D;have a0:x∈o.op.operands:=by{rw[D];simp[Op.operands,Call.operands]};have O:∀{F:Wav},(∀t,Operand.tmp t∈o.op.operands->F t=(E t).den)->evP F x=(evE E x).den:=λ{F}z=>(Agr.mk (rd:=[]) (G:=G) (H:=PHeap.empty) z (λid h=>X)).ev a0;have L:∀{H:Wau}{r:Nat×Nat×Wam Int},G r.1=⟨r.2.1,some (.row 3 (.int .i64) r.2.2)⟩->AgN H G r.1->H (.o r.1)=⟨r.2.1,some (.row 3 1 r.2.2.length (r.2.2.map I))⟩:=λ{H r}hG c=>by{rw[c.1,hG];exact jc8 _ _ _ _};have s:∀{H:Wau}{id v:Nat}{ys:Wam Int},H.set (.o id) ⟨v,some (.row 3 1 ys.length (ys.map I))⟩=znu H [(id,⟨v,some (jlb ys)⟩)]:=λ{H id v ys}=>congrArg (λb=>H.set (.o id) b) (jc8 _ _ _ _).symm;unfold jww at h;split at h;{rename_i j;have j:=ql j;subst j;split at h<;>cases h;rename_i r Q;obtain⟨u,y⟩:=zsa Q;refine⟨λ_=>rfl,λys R W n F H k C z c=>?_⟩;obtain⟨M,rfl⟩:=zli R;have a2:(zeg r.2.2).length=r.2.2.length:=List.length_mergeSort _;refine wbc (d:=0) (back:=false) (ys:=zeg r.2.2) D C K ?_ (L y (c _ (.inr V))) (λv B w N=>(jrj v r.2.2 B w N M).mono λe w'⟨u,y,T⟩=>⟨_,v,u,X,T,λg hg=>hg,V⟩) ?_;{rw[O z,u];rfl};.simp[wdr,if_false];exact⟨Wab,s⟩};.split at h;{rename_i j;have j:=ql j;subst j;split at h<;>cases h;rename_i r Q;obtain⟨u,y⟩:=zsa Q;refine⟨λ_=>rfl,λys R W n F H k C z c=>?_⟩;obtain⟨M,rfl⟩:=zli R;refine wbc (d:=0) (back:=true) D C K ?_ (L y (c _ (.inr V))) (λv B w N=>(ja0 v r.2.2 B w N M).mono λe w'⟨v',u,y,T,h4⟩=>⟨v',v',u,y,T,h4,V⟩) ?_;{rw[O z,u];rfl};.simp[if_true];exact⟨Wab,s⟩};{(split at h<;>try (cases h;done));rename_i j;have j:=ql j;subst j;(split at h<;>try (cases h;done));rename_i A;obtain⟨d,A⟩:=yk A;have S:∀{l:Wam Int}{rd:Wam Nat},(∀{W n F H},FlW W F H->Zc n o->(∀t,Operand.tmp t∈o.op.operands->F t=(E t).den)->(∀id,id∈rd\/id∈[a]\/id∈[]->AgN H G id)->View H (evE E x).den (slI l))->SOk Tryz.prog o E G ⟨Wam Int,false,small7 l l,λ_=> .own a ((G a).ver+1),λys=>[(a,⟨(G a).ver+1,some (jlb ys)⟩)],rd,[a],[]⟩:=λ{l rd}N=>by{refine⟨λ_=>rfl,λys R W n F H k C z c=>?_⟩;obtain⟨M,a1⟩:=zli R;cases a1;have P:=c a (.inr V);have a9:=N k C z c;have J:zc0 F ⟨.value (.func 33),#[x],ts⟩=some (33,[evP F x]):=Wab;refine wbt (id :=.o a) A (C d A) D J K (qs:=[slI l]) ⟨rfl,λi p q u y=>?_⟩ (jly M) λm us hR a8=>?_;{grind};.obtain⟨rfl,rfl⟩:=hR;have e:(H (.o a)).ver=(G a).ver:=by{rw[P.1];rfl};refine⟨by simp[TS.den,e],?_⟩;rw[e];refine Eq.trans ?_ s;rw[wd3];rfl};split at h;{rename_i Z;split at h<;>cases h;rename_i l M;refine S λ{W n F H}k C z c=>?_;have:=(zb7 _ _ _ M).2;exact View.ref (View.noP (jhl _ Z)) this};{(split at h<;>try (cases h;done));rename_i r Q;obtain⟨u,y⟩:=zsa Q;split at h<;>cases h;refine S λ{W n F H}k C z c=>?_;have N:=(Zq (zmk λid Y=>c _ (.inl Y)) (.sl (.int .i64)) (evE E x) r.2.2 ?_).1;{exact N};.rw[u];simp[Qu,zb8];have:znc [r.1] r.1=true:=zi3.2 V;simp[this,y,wet,Dyn.as];rfl}}
end
def jpt(d:Nat->Prm)(fz:Nat->Nat->List (Nat×Ty)):Sy1:=λc a b o E G=>match sLib o a E G with
 |some q=>some q
 |none=>jsn Tryz.prog d fz c a b o E G
def jnt{a:Nat->Prm}{fz:Nat->Nat->Wam (Nat×Ty)}(i:∀c,Y4 Tryz.prog (a c).S)(g:∀c,zh8 Tryz.prog (a c).zt)(e:∀c,zh8 Tryz.prog (a c).zt2):∀d f b o E G q,jpt a fz d f b o E G=some q->SOk Tryz.prog o E G q:=λd f b o E G q h=>by unfold jpt at h;split at h;{rename_i k j;cases h;exact jvl j};.exact jro i g e _ _ _ _ _ _ _ h
section
variable{P:Program}{W:Env}{n:Nat}{F:PFrame}{H:PHeap}
def wbe{o:Oper}{c:Call}{ps qs:Wam PV}{f:Wat}{t:Wap}{B d:Nat}{id:Nm}{xs:Wam PV}{k:PV->Wau->Prop}(hd:o.dst=some d)(a3:d<n)(ho:o.op=.call c)(O:zc0 F c=some (f,ps))(hf:Qi P f=true)(hv:ViewL H ps qs)(hn:∀p∈qs,NoF p)(hc:PCall P f qs (· =.fr t B xs))(hs:∀p∈xs.flatMap PV.cells,Sc p)
  (hk:k (.ps id ((H id).ver+1)) (H.set id ⟨(H id).ver+1,some (.row t B xs.length (xs.flatMap PV.cells))⟩)):PE P W n o F H k:=λV a w l=>by
 obtain⟨S,he,hR⟩:=zbq ho O hf λx b4=>Rp.eval (P:=P) x λt O=>l.slot t;have N:=l.heap.below.size;have q:=hR.view l.heap hv;have I:RpL ⟨W.Z.z,w.heap.size⟩ PHeap.empty V0 w qs S:=⟨q.1,λi p v A G=>(q.2 i p v A G).noF (hn p (wcq A)) λb _ hz Q=>hz (J9.2 (J9.1 Q))⟩
 refine zjb he ((hc ⟨W.Z.z,w.heap.size⟩ w S l.heap.gw (wa2 l.heap) (wcs _) I).mono λe w'⟨v,p,A,G,a9,T,hb⟩=>⟨v,A,?_⟩);subst G;cases T with
 |fr _ _ _ _ j hu h hz Y J=>
  refine⟨_,_,zo V id v,hk,?_⟩;have s:∀g,qc v=some g->w.heap.size<=g:=λg M=>(Zu h M).1;have y:w'.ownsRow W.w.heap.size t B v xs.length j:=⟨h.1,by
   rcases h.2 with h6|⟨g,C,D,e,M,r⟩
   ·grind
   ·exact .inr ⟨g,C,D,e,wdt N M,r⟩⟩
  have m:=Turn.new (b':=⟨(H id).ver+1,some (.row t B xs.length (xs.flatMap PV.cells))⟩) l.heap hb rfl s;refine l.turn m (λbd L=>?_) o.dst (λt O=>X) ?_
  ·cases L;refine⟨j,y,⟨?_,λi p u R hj=>((J i p u R hj).sc (hs p (wcq R)))⟩,Y⟩
   ·rw[flat_length xs hu,h.1]
  ·refine .ps _ _ _ ?_ λ_ _=>?_
   ·simp[PHeap.set]
   ·simp[zo]
def wbr{id:Nm}{ver k:Nat}{t:Wap}{xs:Wam PV}(r:J6 H id ver=some (t,k,xs.length,xs.flatMap PV.cells))(z:∀y∈xs,y.cells.length=k)(s:∀c∈xs.flatMap PV.cells,NoP c):View H (.ps id ver) (.fr t k xs):=λP W V w j v A=>by obtain⟨o,f⟩:=Jw r;obtain⟨a,x,n,l⟩:=j.row id _ _ _ _ o;cases A with|ps _ _ _ B q=>have e:=q X f;subst e;refine .fr t k xs _ a z (Q5 x W.hm λ_ _ _=>rfl) (λb d hz=>?_) l λi p u h m=>(n.2 i p u h m).noP (s p (wcq h)) λb _ hz g=>hz (.inl (J9.1 g));exact j.nz id b X d (J9.1 hz)
end
def z03(G:EG)(e:TypeId)(t:Ty)(s:TS):Option (List t.D):=match s with
 |.own id d=>match Nat.beq (G id).ver d with
  |true=>match (G id).b with
   |some (.row a f l)=>match Nat.beq a e with
    |true=>Dyn.as ⟨.sl f,l⟩ (.sl t)
    |false=>none
   |_=>none
  |false=>none
 |.c v=>match jl5 v with
  |true=>some []
  |false=>none
 |_=>none
def jj7{G:EG}{e:Wap}{t:Ty}{s:TS}{l:Wam t.D}{H:Wau}(i:∀id,(G id).b.isSome=true->AgN H G id)(h:z03 G e t s=some l):View H s.den (.fr e (wid t) (l.map (enc t))):=by unfold z03 at h;(split at h<;>try (cases h;done));{rename_i id o;(split at h<;>try (cases h;done));rename_i f;have f:=ql f;(split at h<;>try (cases h;done));rename_i n q p j;(split at h<;>try (cases h;done));rename_i d;have d:=ql d;subst d;have:=wag h;injection this with e1 a;injection e1 with e1;subst e1;have a:=eq_of_heq a;subst a;simp[TS.den];refine wbr (Js (i id X).1 j (by simp[BD.den,wc0,Zl]) f) (λy m=>?_) λc g=>?_;{obtain⟨z,_,rfl⟩:=wc6.1 m;rw[enc_cells,ju]};.rw[Zl]at g;obtain⟨z,_,hz⟩:=wdm.1 g;exact za _ _ _ hz};.split at h<;>cases h;rename_i v k;rw[zxo k];simp[TS.den,wea];exact wbs
def funF(P:Program)(d:SyT)(hint:Nat->Option HK)(n:Nat)(a:List ResultVar)(c:Code)(ats:List Ty)(e:TypeId)(rt:Ty)(nn:Nat)(t:DL ats):Option (List rt.D):=
 vq d nn hint 0 0 n c 1 0 (jkx (Jc ats t)) EG.empty λb _ E G=>match b with
  |.normal=>match zva P a E G with
   |some s=>z03 G e rt s
   |none=>none
  |.ret=>match zva P a E G with
   |some s=>z03 G e rt s
   |none=>none
  |_=>none
def zpq(P:Program)(f:FuncId)(ats:List Ty)(e:TypeId)(rt:Ty)(g:DL ats->Option (List rt.D)):Prop:=
 Qi P f=true/\∀t r,g t=some r->PCall P f (pvs (Jc ats t)) (· =.fr e (wid rt) (r.map (enc rt)))
def jvu{P:Waq}{y:SyT}(l:zwp P y)(hm:P.follows .mixedOrders=true){hint:Nat->Wal HK}{n:Nat}{x:Wam ResultVar}{c:Code}{ats:Wam Ty}{ee:Wap}{rt:Ty}{nn:Nat}{f:Wat}{fn:Func}(I:P.funcs[f]?=some fn)(F:fn.body=some c)(M:fn.ntmps=n)(O:fn.results.toList=x)(hl:Nat.ble ats.length n=true)(L:Qi P f=true):zpq P f ats ee rt (funF P y hint n x c ats ee rt nn):=by
 subst M;subst O;refine⟨L,λt r h=>?_⟩;have d:(pvs (Jc ats t)).length<=fn.ntmps:=by{unfold pvs;rw[wc0,z0t];simp_all};refine waz I F d λW D=>?_;have C:RestOk 0 R0:=λi Z h=>by{cases h};have b:GhOk 0 W:=λi=>by{rw[D];exact .unk};obtain⟨e,nx,u,a,h3,_,g⟩:=ze hm l c 1 0 (jkx (Jc ats t)) EG.empty _ r h;have this:=g W R0 b C;rw[z5n]at this;rw[zz1];refine PC.mono this λJ T Y⟨h0,A,B⟩=>?_;subst h0;subst A;subst B;have S:∀{o:Wal TS},o=zva P fn.results.toList u a->(match o with
   |some s=>z03 a ee rt s
   |none=>none)=some r->∃q p,jeu P fn (Ju u) (qp a R0)=some q/\View (qp a R0) q p/\NoP p/\p=.fr ee (wid rt) (r.map (enc rt)):=λ{o}g h=>by
  cases o with
  |none=>grind
  |some s=>
   simp only at h;obtain⟨q,N,k⟩:=z7a g.symm;have Q:=jj7 (H:=qp a R0) (λid _=>⟨rfl,λj=>rfl⟩) h;exact⟨q,_,N,λP W V w R v m=>Q P W V w R v (k _ _ _ _ _ m),.fr _ _ _ λc G=>by obtain⟨z,_,rfl⟩:=wc6.1 G;exact zcj _ _,rfl⟩
 grind
def z6g{t:Ty}{cs:Wam PV}(h:∀c∈cs,NoF c)(b:Y9 t=false->cs≠[]):NoF (mkV t cs):=by
 unfold mkV;cases a:Y9 t with
 |true=>exact .agg _ h
 |false=>
  match cs,b a with
  |c::r,_=>grind
def ze7:∀t x,∀c∈jp t x,NoF c
 |.int _,_,c,h=>by simp[jp,wcr]at h;subst h;exact .u _
 |.bool,_,c,h=>by simp[jp,wcr]at h;subst h;exact .u _
 |.str,_,c,h=>by simp[jp,wcr]at h;subst h;exact .u _
 |.sl t,l,c,h=>by simp[jp,wcr]at h;subst h;refine .sl _ _ λc e=>?_;obtain⟨x,_,rfl⟩:=wc6.1 e;exact z6g (ze7 t x) (zxf x)
 |.ref t,o,c,h=>by simp[jp,wcr]at h;subst h;cases o with|none=>{exact .u _}|some x=>exact .rp _ (ze7 t x)
 |.arr n t,v,c,h=>by simp only[jp]at h;obtain⟨x,_,f⟩:=wdm.1 h;exact ze7 t x c f
 |.nil,_,c,h=>by trivial
 |.cons a r,x,c,h=>by simp[jp,wcu]at h;rcases h with h|h;{exact ze7 a _ c h};.exact ze7 r _ c h
 |.st r,x,c,h=>by simp[jp]at h;exact ze7 r _ c h
 |.tup r,x,c,h=>by simp[jp,wcr]at h;subst h;exact .tup _ (zos r _ (ju r x) (ze7 r x) λb d=>z6g b d)
def jty(t:Ty)(x:t.D):NoF (enc t x):=z6g (ze7 t x) (zxf x)
structure FF where
 ats:List Ty
 e:TypeId
 rt:Ty
 g:DL ats->Option (List rt.D)
def zdr(P:Program)(T:FuncId->Option FF):Prop:=∀f x,T f=some x->zpq P f x.ats x.e x.rt x.g
def jgu(T:FuncId->Option FF)(o:Oper)(a:Nat)(E:EF)(G:EG)(c:Call):Option SR:=match Jq o with
 |false=>none
 |true=>match zvh E c with
  |none=>none
  |some (f,b)=>match T f with
   |none=>none
   |some x=>match scT x.rt with
    |false=>none
    |true=>match reach G 1000 (zd4 G (zkg b)) []with
     |none=>none
     |some D=>match rdV (zb8 D G) x.ats b with
      |some t=>some ⟨List x.rt.D,false,x.g t,λ_=> .own a ((G a).ver+1),λl=>[(a,⟨(G a).ver+1,some (.row x.e x.rt l)⟩)],D,[a],[]⟩
      |none=>none
def jlr{P:Waq}{T:Wat->Wal FF}(w:zdr P T){o:Oper}{a:Nat}{E:EF}{G:EG}{c:Call}{q:SR}(u:o.op=.call c)(h:jgu T o a E G c=some q):SOk P o E G q:=by
 unfold jgu at h;split at h<;>try (cases h;done)
 rename_i b;obtain⟨d,b⟩:=yk b;split at h<;>try (cases h;done)
 rename_i f Q M;split at h<;>try (cases h;done)
 rename_i x O;split at h<;>try (cases h;done)
 rename_i s;split at h<;>try (cases h;done)
 rename_i D R;split at h<;>cases h;rename_i t m;obtain⟨I,A⟩:=w f x O;refine⟨λ_=>rfl,λr L W n F H C B v k=>?_⟩;have N:=jd2 (zmk λid g=>k id (.inl g)) m;have l:Agr o E G D F H:=⟨v,λid g=>k id (.inl g)⟩
 have i:=k a (.inr V);have e:(H (.o a)).ver=(G a).ver:=by{rw[i.1];rfl};refine wbe (id :=.o a) b (B d b) u (zjd u l M) I N (λp j=>?_) (A t r L) (λp j=>?_) ⟨by simp[TS.den,e],?_⟩;{unfold pvs at j;obtain⟨y,_,rfl⟩:=wc6.1 j;exact jty _ _};{rw[Zl]at j;obtain⟨z,_,hz⟩:=wdm.1 j;exact zjl _ _ s p hz};.show _=H.set (.o a) (vz a _);simp[vz,wc5,BD.den,e,Zl,wc0]
def jqn(e:Nat->Prm)(fz:Nat->Nat->List (Nat×Ty))(fr:Nat->Nat->Bool)(T:FuncId->Option FF):Sy1:=λb d a o E G=>match fr b a with
 |true=>match o.op with
  |.call c=>jgu T o d E G c
  |_=>none
 |false=>jpt e fz b d a o E G
def jmo{a:Nat->Prm}{fz:Nat->Nat->Wam (Nat×Ty)}{fr:Nat->Nat->Bool}{T:Wat->Wal FF}(j:zdr Tryz.prog T)(i:∀c,Y4 Tryz.prog (a c).S)(g:∀c,zh8 Tryz.prog (a c).zt)(e:∀c,zh8 Tryz.prog (a c).zt2):∀d f b o E G q,jqn a fz fr T d f b o E G=some q->SOk Tryz.prog o E G q:=λd f b o E G q h=>by unfold jqn at h;split at h;{(split at h<;>try (cases h;done));rename_i c k;exact jlr j k h};.exact jnt i g e _ _ _ _ _ _ _ h
def rp_ofV{Z:ZM}{H:Wau}{V:Nm->Wan}{w:Wao}{u v:Wan}(h:Rp Z H V w (ofV u) v):v=u:=by cases u with|agg a=>{simp[ofV]at h;cases h with|agg _ us d c=>congr 1;simp[wc0,Array.length_toList]at d;refine Array.ext U λi b e=>?_;have:=c i (.u a[i]) us[i] Waf (wdf b);generalize us[i]=y at this;generalize a[i]=z at this;cases this;rfl}|_=>simp[ofV]at h;cases h;rfl
def jb6{t:Ty}{x:t.D}{Z:ZM}{H:Wau}{V:Nm->Wan}{w:Wao}{v:Wan}(h:plT t=true)(a:Rp Z H V w (enc t x) v):v=oV t x:=by rw[zz2 t x h]at a;exact rp_ofV a
def zl{α β:Type}(eqb:α->α->Bool):List (α×β×Unit)->α->Option β
 |[],_=>none
 |e::r,k=>match eqb k e.1 with
  |true=>some e.2.1
  |false=>zl eqb r k
def Yr{α β:Type}(eqb:α->α->Bool):List (α×β×Unit)->α->β->List (α×β×Unit)
 |[],k,v=>[(k,v,())]
 |e::r,k,v=>match eqb k e.1 with
  |true=>(k,v,())::r
  |false=>e::Yr eqb r k v
def gD{β:Type}(z:β):Option β->β
 |some x=>x
 |none=>z
def ent{α β:Type}(e:α×β×Unit):α×β:=(e.1,e.2.1)
def z1m{α β:Type}{eqb:α->α->Bool}{k:α}:∀(l:Wam (α×β))(i j:Nat),zbw eqb k l (i+j)=(zbw eqb k l i).map λr=>(r.1+j,r.2)
 |[],i,j=>rfl
 |e::a,i,j=>by unfold zbw;cases eqb k e.1;{simp[wdr,if_false];rw[show i+j+1=i+1+j by omega];exact z1m a (i+1) j};rfl
def z0n{α β:Type}{eqb:α->α->Bool}{k:α}:∀(l:Wam (α×β×Unit)),zl eqb l k=z6p eqb (l.map ent) k
 |[]=>rfl
 |e::a=>by unfold z6p zl;simp[wc7,zbw,ent];cases eqb k e.1;{simp[wdr,if_false];rw[z1m _ 0 1,Option.map_map,z0n a];rfl};rfl
def jdo{α β:Type}{eqb:α->α->Bool}{k:α}{v:β}:∀(l:Wam (α×β×Unit)),(Yr eqb l k v).map ent=jto eqb (l.map ent) k v
 |[]=>rfl
 |e::a=>by have b:=jdo (eqb:=eqb) (k:=k) (v:=v) a;unfold jto at b⊢;unfold Yr;simp[wc7,zbw,ent];cases eqb k e.1;{simp[wdr,if_false,wc7];rw[z1m _ 0 1,b];cases zbw eqb k (a.map ent) 0 with|none=>{rfl}|some r=>rfl};rfl
structure KY where
 kt:Ty
 eqb:kt.D->kt.D->Bool
def z24(P:Program)(a:TypeId->Option KY):Prop:=∀k x,a k=some x->plT x.kt=true/\zn7 P k (oV x.kt) x.eqb
def zpj(P:Program)(t:TypeId):Option (TypeId×TypeId):=match P.underlying t with
 |some (.map k e)=>some (k,e)
 |_=>none
def zid{P:Waq}{t:Wap}{r:Wap×Wap}(h:zpj P t=some r):P.underlying t=some (.map r.1 r.2):=by unfold zpj at h;grind
def zvB(P:Program)(e:TypeId)(d:Dyn):Bool:=match (P.info? e).bind (·.zero)with
 |some z=>plT d.t && zyB z d
 |none=>false
def jr2{P:Waq}{e:Wap}{d:Dyn}(h:zvB P e d=true):plT d.t=true/\∀w,(zeroValue e).run P w=.ok (oV d.t d.x) w:=by unfold zvB at h;split at h;{rename_i z hz;simp[wco]at h;obtain⟨i,a,b⟩:=wdi.1 hz;refine⟨h.1,λw=>?_⟩;obtain⟨c,_⟩:=jpr h.2;have:=jb6 (Z:=⟨λ_=>False,0⟩) (H:=PHeap.empty) (V:=V0) (w:=w) h.1 (c _ _ _ _ _ (.u z));unfold zeroValue;rw[Sem.run_bind,run_typeInfo w a];simp_all};grind
def jpc(G:EG)(kt c:Ty)(x:TS):Option (Nat×Nat×List (kt.D×c.D×Unit)):=match x with
 |.own id a=>match Nat.beq (G id).ver a with
  |true=>match (G id).b with
   |some (.obj k y)=>match k.eqB (.mp kt c)with
    |true=>match Dyn.as ⟨k.ty,y⟩ (.sl (.st (.cons kt (.cons c .nil))))with
     |some l=>some (id,a,l)
     |none=>none
    |false=>none
   |_=>none
  |false=>none
 |_=>none
def z6w{G:EG}{kt a:Ty}{x:TS}{r:Nat×Nat×Wam (kt.D×a.D×Unit)}(h:jpc G kt a x=some r):x=.own r.1 r.2.1/\G r.1=⟨r.2.1,some (.obj (.mp kt a) r.2.2)⟩:=by
 unfold jpc at h;split at h<;>try (cases h;done)
 rename_i id e;split at h<;>try (cases h;done)
 rename_i i;split at h<;>try (cases h;done)
 rename_i k y g;split at h<;>try (cases h;done)
 rename_i c;have:=wba c;subst this;split at h<;>cases h;rename_i l d;have:=wag d;injection this with e1 e2;subst e2;refine⟨rfl,?_⟩;cases f:G id with|mk v b=>simp_all
def sMp(P:Program)(c:TypeId->Option KY)(zy:ZY)(o:Oper)(b:Nat)(E:EF)(G:EG):Option SR:=match o.op with
 |.makeMap t none=>match zpj P t with
  |none=>none
  |some a=>match c a.1 with
   |none=>none
   |some x=>match zy a.2 with
    |none=>none
    |some d=>match Jq o with
     |true=>some ⟨Unit,true,some (),λ_=> .own b (nv G b),λ_=>[(b,⟨nv G b,some (.obj (.mp x.kt d.t) [])⟩)],[],[b],[]⟩
     |false=>none
 |.lookup t x y ok=>match zpj P t with
  |none=>none
  |some a=>match c a.1 with
   |none=>none
   |some q=>match zy a.2 with
    |none=>none
    |some d=>match zvB P a.2 d with
     |false=>none
     |true=>match jpc G q.kt d.t (evE E x)with
      |none=>none
      |some m=>match toT q.kt (evE E y)with
       |none=>none
       |some k=>match ok with
        |false=>some (.dat (Option d.t.D) (some (zl q.eqb m.2.2 k)) (λg=> .v ⟨d.t,gD d.x g⟩) [m.1])
        |true=>some (.dat (Option d.t.D) (some (zl q.eqb m.2.2 k)) (λg=> .tup [.v ⟨d.t,gD d.x g⟩,.v ⟨.bool,g.isSome⟩]) [m.1])
 |.mapUpdate t x y z=>match zpj P t with
  |none=>none
  |some a=>match c a.1 with
   |none=>none
   |some q=>match zy a.2 with
    |none=>none
    |some d=>match zvB P a.2 d with
     |false=>none
     |true=>match jpc G q.kt d.t (evE E x)with
      |none=>none
      |some m=>match toT q.kt (evE E y)with
       |none=>none
       |some k=>match toT d.t (evE E z)with
        |none=>none
        |some v=>some ⟨List (q.kt.D×d.t.D×Unit),false,some (Yr q.eqb m.2.2 k v),λ_=>UND,λl=>[(m.1,⟨m.2.1,some (.obj (.mp q.kt d.t) l)⟩)],[],[m.1],[]⟩
 |.call ⟨.builtin .len,⟨[x]⟩,⟨[t]⟩⟩=>match zpj P t with
  |none=>none
  |some a=>match c a.1 with
   |none=>none
   |some q=>match zy a.2 with
    |none=>none
    |some d=>match jpc G q.kt d.t (evE E x)with
     |none=>none
     |some m=>some (.dat Int (some (m.2.2.length:Int)) (λz=> .v ⟨.int .i64,z⟩) [m.1])
 |_=>none
section
variable{P:Program}{o:Oper}{E:EF}{G:EG}{H:PHeap}{F:PFrame}{W:Env}{n:Nat}
def jm5{kt b:Ty}{id ver:Nat}{l:Wam (kt.D×b.D×Unit)}(c:G id=⟨ver,some (.obj (.mp kt b) l)⟩)(d:H (.o id)=vz id (G id)){V:Nm->Wan}{w:Wao}(m:HRel P W H V w){v:Wan}(n:Rp W.Z H V w (.ps (.o id) ver) v):
  ∃g arr a,v=.map (some g)/\V (.o id)=.map (some g)/\W.w.heap.size<=g/\w.heap[g]?=some (.map arr a)/\arr.toList.map (λe=>(e.key,e.val))=(l.map ent).map λe=>(oV kt e.1,oV b e.2):=by
 have f:H (.o id)=⟨ver,some (jj2 (l.map λe=>(oV kt e.1,oV b e.2.1)))⟩:=by rw[d,c];rfl
 obtain⟨g,o,q,e,i,j,⟨arr,a,rfl,h⟩,_⟩:=m.map (.o id) false [] _ (by rw[f];rfl);cases n with
 |ps _ _ _ p k=>
  have:=k X X;exact⟨g,arr,a,by rw[this,e];rfl,e,i,j,by rw[h,wd3];rfl⟩
def zpi{t:Ty}{s:TS}{x:t.D}(h:toT t s=some x)(a:plT t=true){Z:ZM}{V:Nm->Wan}{w:Wao}{v:Wan}(b:Rp Z H V w s.den v):v=oV t x:=jb6 a ((zb7 t s x h).2 _ _ _ _ _ b)
def sMp_ok{ky:Wap->Wal KY}(b6:z24 P ky){zy:ZY}{l:Nat}{q:SR}(h:sMp P ky zy o l E G=some q):SOk P o E G q:=by
 unfold sMp at h;split at h<;>try (cases h;done)
 ·-- made
  rename_i t C;split at h<;>try (cases h;done)
  split at h<;>try (cases h;done)
  split at h<;>try (cases h;done)
  split at h<;>cases h;rename_i ke B x hx d hd c9;obtain⟨dd,e4⟩:=yk c9;refine⟨λ_=>rfl,λ_ _ W n F H d1 a2 hF hH V a w R=>?_⟩;have a3:(execOp a.eval o).run P w=.ok (.value (.map (some w.heap.size))) (w.alloc (.map #[] 0)):=by
   simp[execOp,C];rfl
  have c6:=hH l (.inr Waf);have S:(H (.o l)).ver+1=nv G l:=by rw[c6.1];rfl
  refine zh a3 ⟨.ps (.o l) (nv G l),H.set (.o l) ⟨(H (.o l)).ver+1,some (jj2 [])⟩,zo V (.o l) (.map (some w.heap.size)),⟨Wab,?_⟩,?_⟩
  ·rw[S];rfl
  ·have L:Below w.heap.size w (w.alloc (.map #[] 0)):=(Below.refl _ _).alloc (wcs _) _;refine R.turn (Turn.new R.heap L rfl λg O=>by cases O;simp) (λbd a1=>?_) o.dst (λt ht=>by exact a2 t ht) ?_
   ·cases a1;exact⟨w.heap.size,_,[],rfl,R.heap.below.size,heap_alloc_new w _,⟨#[],0,rfl,rfl⟩,rfl,λi p v h=>Waf⟩
   ·refine .ps _ _ _ ?_ λ_ _=>?_
    ·simp[PHeap.set,S]
    ·simp[zo]
 ·-- looked up
  rename_i t x y ok C;split at h<;>try (cases h;done)
  rename_i ke B;split at h<;>try (cases h;done)
  rename_i T hq;split at h<;>try (cases h;done)
  rename_i d hd;split at h<;>try (cases h;done)
  rename_i hz;split at h<;>try (cases h;done)
  rename_i m hm;split at h<;>try (cases h;done)
  rename_i k hk;obtain⟨a5,hK⟩:=b6 _ _ hq;obtain⟨M,hz⟩:=jr2 hz;have ht:=zid B;obtain⟨e1,e2⟩:=z6w hm;have s:x∈o.op.operands:=Wak C;have N:y∈o.op.operands:=Wak C;have Y:∀{W F H},Agr o E G [m.1] F H->∀V(a:Act)w,HRel P W H V w->(∀x∈o.op.operands,Rp W.Z H V w (evP F x) (a.eval x))->(execOp a.eval o).run P w=.ok (.value (if ok then .tuple #[oV d.t ((z6p T.eqb (m.2.2.map ent) k).getD d.x),.bool (z6p T.eqb (m.2.2.map ent) k).isSome]else oV d.t ((z6p T.eqb (m.2.2.map ent) k).getD d.x))) w:=λ{W F H}c V a w hw Q=>by
   have j:=Q x s;have I:=Q y N;rw[c.ev s,e1]at j;rw[c.ev N]at I;simp[TS.den]at j;obtain⟨g,arr,D,hv,hV,O,L,he⟩:=jm5 e2 (c.h m.1 Waf) hw j;have a4:=zpi hk a5 I;have h1:=z6r hK ht hz k L he ok;simp only[execOp,C,hv,a4,Sem.run_bind,h1,Result.andThen_ok];rfl
  have b5:∀g,gD d.x g=g.getD d.x:=λg=>Wab;cases ok with
  |false=>
   cases h;refine SOk.dat λg O W F H c=>waf λV a w hw Q=>⟨_,Y c V a w hw Q,?_⟩
   cases O;simp[TS.den,wdr,if_false];rw[z0n,b5,zz2 _ _ M];exact Rp.ofV _ _ _ _ _
  |true=>
   cases h;refine SOk.dat λg O W F H c=>waf λV a w hw Q=>⟨_,Y c V a w hw Q,?_⟩
   cases O;simp[TS.den,zq,if_true];rw[z0n,b5];refine .tup _ _ rfl λi p v h1 h2=>?_
   match i,h1,h2 with
   |0,h1,h2=>cases h1;cases h2;rw[zz2 _ _ M];exact Rp.ofV _ _ _ _ _
   |1,h1,h2=>cases h1;cases h2;exact .u _
 ·-- written
  rename_i t x y z C;split at h<;>try (cases h;done)
  rename_i ke B;split at h<;>try (cases h;done)
  rename_i T hq;split at h<;>try (cases h;done)
  rename_i d hd;split at h<;>try (cases h;done)
  rename_i hz;split at h<;>try (cases h;done)
  rename_i m hm;split at h<;>try (cases h;done)
  rename_i k hk;split at h<;>cases h;rename_i v hv;obtain⟨a5,hK⟩:=b6 _ _ hq;obtain⟨M,hz⟩:=jr2 hz;have ht:=zid B;obtain⟨e1,e2⟩:=z6w hm;have s:x∈o.op.operands:=Wak C;have N:y∈o.op.operands:=Wak C;have d6:z∈o.op.operands:=Wak C;refine⟨λ_=>rfl,λl' hl W n F H d1 a2 hF hH V a w R=>?_⟩;cases hl;have c:Agr o E G [m.1] F H:=⟨hF,λid e5=>hH id (.inr (.inl U))⟩
  have ev:∀x,Rp W.Z H V w (evP F x) (a.eval x):=λx=>Rp.eval (P:=P) x λt _=>R.slot t;have j:=ev x;have I:=ev y;have c2:=ev z;rw[c.ev s,e1]at j;rw[c.ev N]at I;rw[c.ev d6]at c2;simp[TS.den]at j;have b2:=c.h m.1 Waf;obtain⟨J,arr,D,d5,hV,b4,L,he⟩:=jm5 e2 b2 R.heap j;have a4:=zpi hk a5 I;have d4:=zpi hv M c2;obtain⟨r,f,c0,d0⟩:=zwi hK ht k v L he;have e6:=(wde.1 L).1;have A:∀b,b≠J->(w.heap.setIfInBounds J (.map r f))[b]?=w.heap[b]?:=λb e8=>X;have e3:H (.o m.1)=⟨m.2.1,some (jj2 (m.2.2.map λe=>(oV T.kt e.1,oV d.t e.2.1)))⟩:=by rw[b2,e2];rfl
  have hl:(H (.o m.1)).body.isSome=true:=X;have a7:Turn W H V w (.o m.1) ⟨m.2.1,some (jj2 ((Yr T.eqb m.2.2 k v).map λe=>(oV T.kt e.1,oV d.t e.2.1)))⟩ (V (.o m.1)) { w with heap:=w.heap.setIfInBounds J (.map r f) }:=
   ⟨R.heap.below.trans ⟨rfl,rfl,rfl,Waf,λb L=>A b U⟩,Waf,λb L hn=>A b λe=>hn ⟨hl,by rw[e,hV];rfl⟩,λg' d2=> .inr ⟨hl,d2⟩,.inr ⟨X,rfl,hl⟩⟩
  have a3:(execOp a.eval o).run P w=.ok .skip { w with heap:=w.heap.setIfInBounds J (.map r f) }:=by
   simp only[execOp,C,d5,a4,d4,Sem.run_bind,c0,Result.andThen_ok];rfl
  unfold Oper.wp;rw[a3];refine⟨.u undef,_,zo V (.o m.1) (V (.o m.1)),⟨und_den.symm,rfl⟩,R.turn a7 (λbd a1=>?_) o.dst a2 (.u _)⟩;cases a1;refine⟨J,.map r f,[],hV,b4,X,⟨r,f,rfl,?_⟩,rfl,λi p v h=>Waf⟩;rw[d0,<- jdo,wd3];rfl
 ·-- counted
  rename_i x t C;split at h<;>try (cases h;done)
  rename_i ke B;split at h<;>try (cases h;done)
  rename_i T hq;split at h<;>try (cases h;done)
  rename_i d hd;split at h<;>cases h;rename_i m hm;have ht:=zid B;obtain⟨e1,e2⟩:=z6w hm;have s:x∈o.op.operands:=by rw[C];simp[Op.operands,Call.operands]
  refine SOk.dat λg O W F H c=>waf λV a w hw Q=>?_;cases O;have j:=Q x s;rw[c.ev s,e1]at j;simp[TS.den]at j;obtain⟨J,arr,D,hv,hV,b4,L,he⟩:=jm5 e2 (c.h m.1 Waf) hw j;refine⟨.int .i64 m.2.2.length,?_,by simp[TS.den];exact .u _⟩;have b8:arr.size=m.2.2.length:=by have:=congrArg List.length he;grind
  have:(Builtin.len_ #[t] o.type #[.map (some J)]).run P w=.ok (goInt m.2.2.length) w:=by
   simp[Builtin.len_,run_underlying ht,MapKept.run_getObj_map L,b8]
  simp[execOp,C,resolve,invoke,builtin,Sem.run_bind,Sem.run_pure,Result.andThen_ok,wfh,wc7,wea,hv,this];rfl
end
def jod(e:TypeId->Option KY)(c:Nat->Prm)(fz:Nat->Nat->List (Nat×Ty))(fr:Nat->Nat->Bool)(T:FuncId->Option FF):Sy1:=λa b d o E G=>match sMp Tryz.prog e (c a).zy o b E G with
 |some q=>some q
 |none=>jqn c fz fr T a b d o E G
def jnr{j:Wap->Wal KY}(g:z24 Tryz.prog j){a:Nat->Prm}{fz:Nat->Nat->Wam (Nat×Ty)}{fr:Nat->Nat->Bool}{T:Wat->Wal FF}(l:zdr Tryz.prog T)(k:∀c,Y4 Tryz.prog (a c).S)(i:∀c,zh8 Tryz.prog (a c).zt)(e:∀c,zh8 Tryz.prog (a c).zt2):∀d f b o E G q,jod j a fz fr T d f b o E G=some q->SOk Tryz.prog o E G q:=λd f b o E G q h=>by unfold jod at h;split at h;{rename_i n m;cases h;exact sMp_ok g m};.exact jmo l k i e _ _ _ _ _ _ _ h
def baEq(a b:Wam UInt8):((⟨⟨a⟩⟩:ByteArray) == ⟨⟨b⟩⟩)=(a == b):=by show ByteArray.beq _ _=_;unfold ByteArray.beq;simp
def klawT{P:Waq}{k:Wap}(h:P.underlying k=some .string):zn7 P k (oV .str) (λa b=>a == b) where
 chk:=λb x w=>by
  unfold Instr.checkKey;simp only[Sem.run_bind,run_underlying h,Result.andThen_ok];rfl
 und:=⟨_,h,λa b=> .inr (by
  show some ((⟨⟨a⟩⟩:ByteArray) == ⟨⟨b⟩⟩)=some (a == b);rw[baEq])⟩
 eq:=λa b w=>zfc h (by
  show some ((⟨⟨a⟩⟩:ByteArray) == ⟨⟨b⟩⟩)=some (a == b);rw[baEq]) w
 beq:=λa b h=>X
 bits:=λa=>by
  show((⟨⟨a⟩⟩:ByteArray) == ⟨⟨a⟩⟩)=true;rw[baEq];simp
def zua{P:Waq}(body:Nat->PUnit->Sem (ForInStep PUnit))(w:Wao):∀(l:Wam Nat),(∀i∈l,(body i PUnit.unit).run P w=.ok (.yield PUnit.unit) w)->(forIn l PUnit.unit body).run P w=.ok PUnit.unit w
 |[],_=>V
 |i::l,h=>by rw[List.forIn_cons,Sem.run_bind,h i V];simpa using zua body w l λj a=>h j X
def z6x{n:Nat}{b:Was}(a:(Ty.arr n (.int b)).D):oV (.arr n (.int b)) a=.agg (a.l.map (Value.int b)).toArray:=by show Value.agg ((a.l.flatMap (jp (.int b))).map uV).toArray=_;congr 2;induction a.l with|nil=>{rfl}|cons x l c=>rw[wdj,wdb,c];rfl
def klawA{P:Waq}{t e:Wap}{n:Nat}{c:Was}(f:P.underlying t=some (.array n e))(d:P.underlying e=some (.int c))(g:asz P e=some (false,1)):zn7 P t (oV (.arr n (.int c))) (λa b=>a.l == b.l) where
 chk:=λb a w=>by
  have z:∀w,(sizeOf e).run P w=.ok 1 w:=λw=>(zgo g w).2;rw[z6x];unfold Instr.checkKey;simp only[Sem.run_bind,run_underlying f,Result.andThen_ok];rw[Std.Legacy.Range.forIn_eq_forIn_range'];have j:List.range' ([:n]:Std.Legacy.Range).start ([:n]:Std.Legacy.Range).size ([:n]:Std.Legacy.Range).step=range n:=by
   simp[Std.Legacy.Range.size,List.range_eq_range']
  rw[j,zua _ w (range n) λi q=>?_]
  ·rfl
  ·have k:i<a.l.length:=by rw[a.h];grind
   have u:=zdt (cs:=(a.l.map (Value.int c)).toArray) (i:=i) (v :=.int c a.l[i]) d rfl V w;have p:(Instr.checkKey b 9999 e (.int c a.l[i])).run P w=.ok () w:=by
    unfold Instr.checkKey;simp only[Sem.run_bind,run_underlying d,Result.andThen_ok];rfl
   simp_all
 und:=⟨_,f,λa b=> .inl rfl⟩
 eq:=λa b w=>by
  rw[z6x,z6x];exact jae f d (λw=>(zgo g w).2) ⟨a.l,a.h⟩ ⟨b.l,b.h⟩ w
 beq:=λa b h=>by
  obtain⟨l,r⟩:=a;obtain⟨m,s⟩:=b;have:l=m:=by simpa using h
  subst this;rfl
 bits:=λa=>by
  rw[z6x];have:∀l:Wam Int,((l.map (Value.int c)).zip (l.map (Value.int c))).all (λ(x,y)=>Instr.sameBits 9999 x y)=true:=by
   intro l;induction l with
   |nil=>rfl
   |cons x l o=>
    simp[wc7,List.zip_cons_cons,List.all_cons,o,Bool.and_true];simp[Instr.sameBits]
  simp[Instr.sameBits,BEq.rfl,weu]
  grind
end
end Go.Proofs.YtiafpechgjopfaaGreatDoor.T
