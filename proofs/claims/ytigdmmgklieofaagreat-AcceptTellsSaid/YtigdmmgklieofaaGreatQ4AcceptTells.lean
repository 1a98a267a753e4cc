import Derived.Lib.RuneCount
import Derived.Test.YtigdmmgklieofaaGreatQ3AcceptTells

namespace Go.Proofs.YtigdmmgklieofaaGreat.T
noncomputable section
open _root_.Go.Proofs.Tryz
set_option maxRecDepth 100000
set_option maxHeartbeats 8000000
set_option linter.unusedVariables false
set_option linter.unusedSimpArgs false
open Go Go.RowKit L
abbrev Wb:=Arr 4 Int
abbrev Wa:=Arr 256 Int
abbrev W9:=List UInt8
abbrev W8:=List Bool
abbrev W7:=List Int
abbrev W6:=List (Arr 4 Int)
abbrev W5:=List (List Bool)
abbrev W4:=List (List Int)
abbrev W3:=List (List (List Bool))
abbrev I6:Ty :=.int .i64
abbrev U8:Ty :=.int .u8
abbrev L6:Ty :=.sl I6
abbrev M6:Ty :=.sl L6
abbrev LB:Ty :=.sl .bool
def h0:=lk (α:=HK) []
abbrev jl:Ty:=(.st (.cons I6 (.cons (.arr 4 (.int .u64)) .nil)))
abbrev jf:=(Int×(Arr 4 Int)×Unit)
abbrev ve:Ty:=(.st (.cons .str (.cons (.sl jl) (.cons I6 .nil))))
abbrev qe:=((List UInt8)×(List jf)×Int×Unit)
abbrev jt:Ty:=(.st (.cons .bool (.cons I6 (.cons I6 (.cons I6 .nil)))))
abbrev ji:=(Bool×Int×Int×Int×Unit)
abbrev js:Ty:=(.st (.cons I6 (.cons (.sl jt) .nil)))
abbrev jh:=(Int×(List ji)×Unit)
abbrev jc:Ty:=(.st (.cons (.sl ve) (.cons (.sl .str) (.cons (.sl js) (.cons I6 (.cons I6 (.cons I6 (.cons I6 (.cons I6 .nil)))))))))
abbrev jb:=((List qe)×(List (List UInt8))×(List jh)×Int×Int×Int×Int×Int×Unit)
abbrev jj:Ty:=(.st (.cons I6 (.cons I6 (.cons I6 .nil))))
abbrev jd:=(Int×Int×Int×Unit)
abbrev qk:Ty:=(.st (.cons jc (.cons jj .nil)))
abbrev qh:=(jb×jd×Unit)
abbrev zcf:Ty:=(.st (.cons LB (.cons M6 .nil)))
abbrev zb4:=((List Bool)×(List (List Int))×Unit)
abbrev jo:Ty:=(.st (.cons (.arr 256 U8) (.cons I6 (.cons M6 (.cons L6 .nil)))))
abbrev jg:=((Arr 256 Int)×Int×(List (List Int))×(List Int)×Unit)
abbrev Qi:Ty:=(.st (.cons jc (.cons jo (.cons M6 .nil))))
abbrev Qj:=(jb×jg×(List (List Int))×Unit)
abbrev jp:Ty:=(.st (.cons .bool (.cons I6 (.cons I6 (.cons .bool (.cons (.arr 4 (.int .u64)) (.cons (.arr 4 (.int .u64)) .nil)))))))
abbrev jm:=(Bool×Int×Int×Bool×(Arr 4 Int)×(Arr 4 Int)×Unit)
abbrev jr:Ty:=(.st (.cons I6 (.cons I6 .nil)))
abbrev je:=(Int×Int×Unit)
abbrev z5z:Ty:=(.st (.cons L6 (.cons L6 (.cons .bool .nil))))
abbrev z8v:=((List Int)×(List Int)×Bool×Unit)
abbrev vd:Ty:=(.st (.cons z5z (.cons I6 .nil)))
abbrev qy:=(z8v×Int×Unit)
abbrev zv7:Ty:=(.st (.cons (.sl (.arr 4 (.int .u64))) (.cons M6 (.cons vd .nil))))
abbrev zx4:=((List (Arr 4 Int))×(List (List Int))×qy×Unit)
abbrev ju:Ty:=(.st (.cons (.sl (.arr 4 (.int .u64))) (.cons L6 (.cons LB (.cons M6 (.cons L6 .nil))))))
abbrev jk:=((List (Arr 4 Int))×(List Int)×(List Bool)×(List (List Int))×(List Int)×Unit)
abbrev Q6:Ty:=(.st (.cons U8 (.cons .bool .nil)))
abbrev vn:=(Int×Bool×Unit)
def zt0:ZT:=lk (α:=List TS) [(3,[.c (.int .i64 0)]),(4,[.c (.bool false)]),(26,[.c (.slice none 0 0),.c (.slice none 0 0),.c (.slice none 0 0),.c (.int .i64 0),.c (.int .i64 0),.c (.int .i64 0),.c (.int .i64 0),.c (.int .i64 0)]),(29,[.v ⟨(.arr 256 U8),⟨List.replicate 256 0,wch⟩⟩]),(30,[.c (.slice none 0 0)]),(31,[.c (.slice none 0 0)]),(33,[.v ⟨(.arr 256 U8),⟨List.replicate 256 0,wch⟩⟩,.c (.int .i64 0),.c (.slice none 0 0),.c (.slice none 0 0)]),(36,[.c (.int .i64 0),.c (.int .i64 0),.c (.int .i64 0)]),(57,[.c (.slice none 0 0)]),(61,[.c (.string ⟨#[]⟩),.c (.slice none 0 0),.c (.int .i64 0)]),(65,[.c (.bool false),.c (.int .i64 0),.c (.int .i64 0),.c (.int .i64 0)]),(68,[.c (.int .i64 0),.c (.slice none 0 0)]),(71,[.c (.slice none 0 0),.c (.slice none 0 0),.c (.slice none 0 0),.c (.int .i64 0),.c (.int .i64 0),.c (.int .i64 0),.c (.int .i64 0),.c (.int .i64 0),.v ⟨(.arr 256 U8),⟨List.replicate 256 0,wch⟩⟩,.c (.int .i64 0),.c (.slice none 0 0),.c (.slice none 0 0),.c (.slice none 0 0)]),(76,[.c .nilFunc]),(84,[.c (.slice none 0 0),.c (.slice none 0 0),.c (.slice none 0 0),.c (.slice none 0 0),.c (.slice none 0 0)]),(125,[.v ⟨(.arr 4 (.int .u64)),⟨List.replicate 4 0,wch⟩⟩]),(138,[.c (.int .i64 0),.c (.int .i64 0)]),(164,[.c (.int .i64 0),.v ⟨(.arr 4 (.int .u64)),⟨List.replicate 4 0,wch⟩⟩]),(182,[.c (.slice none 0 0),.c (.slice none 0 0),.c (.slice none 0 0),.c (.int .i64 0),.c (.int .i64 0),.c (.int .i64 0),.c (.int .i64 0),.c (.int .i64 0),.c (.int .i64 0),.c (.int .i64 0),.c (.int .i64 0)]),(184,[.c .nilFunc]),(211,[.v ⟨(.arr 3 I6),⟨List.replicate 3 0,wch⟩⟩]),(217,[.c (.bool false),.c (.int .i64 0),.c (.int .i64 0),.c (.bool false),.v ⟨(.arr 4 (.int .u64)),⟨List.replicate 4 0,wch⟩⟩,.v ⟨(.arr 4 (.int .u64)),⟨List.replicate 4 0,wch⟩⟩]),(219,[.c (.map none)]),(227,[.c (.slice none 0 0),.c (.slice none 0 0),.c (.slice none 0 0),.c (.slice none 0 0)]),(258,[.c (.slice none 0 0),.c (.slice none 0 0),.c (.bool false)]),(260,[.c (.slice none 0 0),.c (.slice none 0 0),.c (.bool false),.c (.int .i64 0)]),(262,[.c (.slice none 0 0),.c (.slice none 0 0),.c (.slice none 0 0),.c (.slice none 0 0),.c (.bool false),.c (.int .i64 0)]),(266,[.c (.pointer none)]),(269,[.c (.slice none 0 0),.c (.slice none 0 0)]),(275,[.c .nilFunc,.c .nilFunc,.c .nilFunc]),(278,[.c (.int .u8 0),.c (.bool false)]),(296,[.c (.slice none 0 0)]),(316,[.c (.int .u64 0)])]
theorem jj5:zgc Tryz.prog zt0:=zc (by kernel_rfl) (by kernel_rfl) (by kernel_rfl)<|zc (by kernel_rfl) (by kernel_rfl) (by kernel_rfl)<|zc (by kernel_rfl) (by kernel_rfl) (by kernel_rfl)<|zc (by kernel_rfl) (by kernel_rfl) (by kernel_rfl)<|zc (by kernel_rfl) (by kernel_rfl) (by kernel_rfl)<|zc (by kernel_rfl) (by kernel_rfl) (by kernel_rfl)<|zc (by kernel_rfl) (by kernel_rfl) (by kernel_rfl)<|zc (by kernel_rfl) (by kernel_rfl) (by kernel_rfl)<|zc (by kernel_rfl) (by kernel_rfl) (by kernel_rfl)<|zc (by kernel_rfl) (by kernel_rfl) (by kernel_rfl)<|zc (by kernel_rfl) (by kernel_rfl) (by kernel_rfl)<|zc (by kernel_rfl) (by kernel_rfl) (by kernel_rfl)<|zc (by kernel_rfl) (by kernel_rfl) (by kernel_rfl)<|zc (by kernel_rfl) (by kernel_rfl) (by kernel_rfl)<|zc (by kernel_rfl) (by kernel_rfl) (by kernel_rfl)<|zc (by kernel_rfl) (by kernel_rfl) (by kernel_rfl)<|zc (by kernel_rfl) (by kernel_rfl) (by kernel_rfl)<|zc (by kernel_rfl) (by kernel_rfl) (by kernel_rfl)<|zc (by kernel_rfl) (by kernel_rfl) (by kernel_rfl)<|zc (by kernel_rfl) (by kernel_rfl) (by kernel_rfl)<|zc (by kernel_rfl) (by kernel_rfl) (by kernel_rfl)<|zc (by kernel_rfl) (by kernel_rfl) (by kernel_rfl)<|zc (by kernel_rfl) (by kernel_rfl) (by kernel_rfl)<|zc (by kernel_rfl) (by kernel_rfl) (by kernel_rfl)<|zc (by kernel_rfl) (by kernel_rfl) (by kernel_rfl)<|zc (by kernel_rfl) (by kernel_rfl) (by kernel_rfl)<|zc (by kernel_rfl) (by kernel_rfl) (by kernel_rfl)<|zc (by kernel_rfl) (by kernel_rfl) (by kernel_rfl)<|zc (by kernel_rfl) (by kernel_rfl) (by kernel_rfl)<|zc (by kernel_rfl) (by kernel_rfl) (by kernel_rfl)<|zc (by kernel_rfl) (by kernel_rfl) (by kernel_rfl)<|zc (by kernel_rfl) (by kernel_rfl) (by kernel_rfl)<|zc (by kernel_rfl) (by kernel_rfl) (by kernel_rfl)<|zn
def zt2:ZT:=λt=>cond (Nat.beq t 211) (some [.c (.int .i64 0),.c (.int .i64 0),.c (.int .i64 0)]) (zt0 t)
theorem zt2_ok:zgc Tryz.prog zt2:=λt a h=>by
 unfold zt2 at h;refine jcb h (λe h=>?_) λh=>?_
 ·subst e;cases h;exact⟨(zw9 Tryz.prog 211).getD [],by kernel_rfl,by kernel_rfl,wa4 (by kernel_rfl)⟩
 exact jj5 t a h
def zy0:ZY:=λt=>cond (Nat.beq t 3) (some ⟨I6,0⟩) (cond (Nat.beq t 4) (some ⟨.bool,false⟩) (cond (Nat.beq t 5) (some ⟨U8,0⟩) (cond (Nat.beq t 31) (some ⟨L6,[]⟩) (none))))
def zll:Ty.D .str->Ty.D .str->Bool:=λa b=>a == b
theorem jmr:zqi Tryz.prog 9 (oV .str) zll:=klawT (by kernel_rfl)
def jic(a:Ty.D jr):Array Value:=#[.int .i64 a.1,.int .i64 a.2.1]
def jaa(a b:Ty.D jr):List Bool:=[a.1 == b.1,a.2.1 == b.2.1]
def zex(a b:Ty.D jr):Bool:=(jaa a b).all id
theorem jf0:zqi Tryz.prog 138 (oV jr) zex:=joy (kc:=jic) (eb:=jaa) (0,0,()) (λa b=>by kernel_rfl) (λa b h=>by
 simp[jaa]at h;exact Prod.ext h.1 (Prod.ext h.2 rfl)) (λa=>by simp[jic,Instr.sameBits])
def jhm(a:Ty.D Q6):Array Value:=#[.int .u8 a.1,.bool a.2.1]
def zvf(a b:Ty.D Q6):List Bool:=[a.1 == b.1,a.2.1 == b.2.1]
def Qm(a b:Ty.D Q6):Bool:=(zvf a b).all id
theorem jd5:zqi Tryz.prog 278 (oV Q6) Qm:=joy (kc:=jhm) (eb:=zvf) (0,false,()) (λa b=>by kernel_rfl) (λa b h=>by
 simp[zvf]at h;exact Prod.ext h.1 (Prod.ext h.2 rfl)) (λa=>by simp[jhm,Instr.sameBits])
def ky0:TypeId->Option KY:=λk=>cond (Nat.beq k 9) (some ⟨.str,zll⟩) (cond (Nat.beq k 138) (some ⟨jr,zex⟩) (cond (Nat.beq k 278) (some ⟨Q6,Qm⟩) (none)))
theorem ky0_ok:zz3 Tryz.prog ky0:=λk x h=>by
 simp only[ky0]at h;refine jcb h (λe h=>?_) λh=>?_
 ·subst e;cases h;exact⟨rfl,jmr⟩
 refine jcb h (λe h=>?_) λh=>?_
 ·subst e;cases h;exact⟨rfl,jf0⟩
 refine jcb h (λe h=>?_) λh=>?_
 ·subst e;cases h;exact⟨rfl,jd5⟩
 cases h
def cf0:Cfg:=⟨zt0,zt2,zy0,ky0⟩
theorem zge:jh0 cf0:=⟨jj5,zt2_ok,ky0_ok⟩
theorem mk1:type_of% (@mkP cf0 zge):=no_implicit_lambda% (@mkP cf0 zge)
theorem mk2:type_of% (@mkF cf0 zge):=no_implicit_lambda% (@mkF cf0 zge)
theorem mk3:type_of% (@mkR cf0 zge):=no_implicit_lambda% (@mkR cf0 zge)
theorem mk4:type_of% (@mkS cf0 zge):=no_implicit_lambda% (@mkS cf0 zge)
theorem mk5:type_of% (@mkE cf0 zge):=no_implicit_lambda% (@mkE cf0 zge)
def Yz(j:Nat)(i:(List qe)):Option (List W9):=jn (σ:=(List qe)×Int×Int×(List W9)) (λ(a,b,c,d)e=>ifB (decide (c<b)) (ja (atL a c) λf=>ja (apO 16 d [f.1]) λg=>ja (some (w64 (c+1))) λh=>e (a,b,h,g)) (some d)) j (i,(i.length:Int),0,[])
def z4f:=lk (α:=HK) [(58,me [vo 3 0,(6,.v (.sl ve)),vi 7,vi 8] [.row 9 .str] 1)]
theorem zid(a:Nat):FFOk 161 ⟨[(.sl ve)],9,.str,λt=>Yz a t⟩:=mk2 func161 a 0 [(0,[17])] [(0,[(15,.told .str)])] [] [] itn z4f rn gn tn (by kernel_rfl) λt=>by kernel_rfl
abbrev zox:=Yz
theorem ztc(a:Nat):jv 161 ⟨[(.sl ve)],(.sl .str),λt=>Yz a t⟩:=(zid a).pure
def zfi(q:Nat)(p:Int):Option Int:=J (σ:=Int×Bool) (λ(a,b)=>ifB b (some 2) (J (λ(d:Bool)=>ifB d (some 1) (some 0)) λe=>ja (some (decide (48<=a))) λf=>ifB f (e (decide (a<=57))) (e false))) λc=>J (σ:=Int×Bool) (λ(g,h)=>ifB h (c (g,h)) (J (σ:=Int×Bool) (λ(j,k)=>ifB k (c (j,k)) (ja (some (decide (j=95))) λm=>c (j,m))) λl=>ja (some (decide (65<=g))) λn=>ifB n (l (g,decide (g<=90))) (l (g,false)))) λi=>ja (some (decide (97<=p))) λo=>ifB o (i (p,decide (p<=122))) (i (p,false))
def z8s:=lk (α:=HK) [(12,me [(0,.v (.int .i32)),vb 3] [] 0),(48,me [(0,.v (.int .i32)),vb 3] [] 0),(102,me [vb 18] [] 0),(198,me [(0,.v (.int .i32)),vb 3] [] 0)]
theorem zwy(a:Nat):jv 247 ⟨[(.int .i32)],I6,λt=>zfi a t⟩:=mk1 func247 a 0 [(0,[5,11,17,20])] [] [] [] itn z8s rn gn tn (by kernel_rfl) λt=>by kernel_rfl
def zcu(o:Nat)(n:W9):Option Bool:=jn (σ:=W9×(W9×Int×Unit)) (λ(a,b)c=>ifB (zi2 b.1 b.2.1) (ja (zfi o (z4y b.1 b.2.1)) λd=>J (σ:=W9×Bool×(W9×Int×Unit)) (λ(e,f,g)=>ifB f (some false) (c (e,g))) λh=>ja (some (decide (d=0))) λi=>ifB i (h (a,true,(b.1,zhq b.1 b.2.1,()))) (ja (some (decide (d=1))) λj=>ifB j (h (a,decide ((jb7 b.2.1)=0),(b.1,zhq b.1 b.2.1,()))) (h (a,false,(b.1,zhq b.1 b.2.1,()))))) (J (λ(k:Bool)=>some k) λl=>ja (some (!(a == []))) λm=>ifB m (l (decide ((a.length:Int)<=32))) (l false))) o (n,(n,0,()))
def z8w:=lk (α:=HK) [(14,me [vb 2] [] 0),(26,me [(0,.v .str),vo 7 0] [.obj .si] 1),(3382,me [(0,.v .str),vo 7 0,vb 23] [.obj .si] 1)]
theorem zwr(a:Nat):jv 212 ⟨[.str],.bool,λt=>zcu a t⟩:=mk1 func212 a 0 [(0,[15,18,25])] [] [] [] itn z8w rn gn (tc (zwy a) tn) (by kernel_rfl) λt=>by kernel_rfl
def v7(j:Nat)(h:(List W9))(i:W9):Option Int:=jn (σ:=(List W9)×W9×Int×Int) (λ(a,b,c,d)e=>ifB (decide (d<c)) (ja (atL a d) λf=>ifB (b == f) (some d) (ja (some (w64 (d+1))) λg=>e (a,b,c,g))) (some (-1))) j (h,i,(h.length:Int),0)
def zbc:=lk (α:=HK) [(26,me [(0,.v (.sl .str)),(1,.v .str),vi 7,vi 8] [] 0)]
theorem Z2(a:Nat):jv 248 ⟨[(.sl .str),.str],I6,λt=>v7 a (t.1) (t.2)⟩:=mk1 func248 a 0 [(0,[18])] [] [] [] itn zbc rn gn tn (by kernel_rfl) λt=>by kernel_rfl
def zc7(d:Nat)(b:(List W9))(c:W9):Option Int:=ja (v7 d b c) λa=>some a
theorem zw8(a:Nat):jv 213 ⟨[(.sl .str),.str],I6,λt=>zc7 a (t.1) (t.2)⟩:=mk1 func213 a 0 [] [] [] [] itn h0 rn gn (tc (Z2 a) tn) (by kernel_rfl) λt=>by kernel_rfl
def zm2(B:Nat)(t:jf):Option (Int×Bool×Unit):=J (λ(a:Unit)=>some (0,false,())) λb=>J (λ(c:Int)=>some (c,true,())) λd=>J (λ(e:Int)=>ja (some (w64 (e+1))) λg=>d g) λf=>J (σ:=Int×Int×Bool) (λ(h,i,j)=>ifB j (ja (some (w64 (h+1))) λl=>f l) (J (σ:=Int×Int×Bool) (λ(m,n,o)=>ifB o (f m) (J (σ:=Int×Bool) (λ(q,r)=>ifB r (d q) (b ())) λs=>ja (some (decide (n=1))) λu=>ifB u (s (m,u)) (ja (some (decide (n=2))) λv=>s (m,v)))) λp=>ja (some (decide (i=5))) λw=>ifB w (p (h,i,w)) (ja (some (decide (i=6))) λx=>ifB x (p (h,i,x)) (ja (some (decide (i=7))) λy=>p (h,i,y))))) λk=>ja (some (decide (t.1=3))) λz=>ifB z (k (0,t.1,z)) (ja (some (decide (t.1=4))) λA=>k (0,t.1,A))
def jla:=lk (α:=HK) [(29,me [] [] 0),(116,me [vi 4] [] 0),(464,me [vi 4] [] 0),(14848,me [vi 4,vi 6,vb 7] [] 0),(29698,me [vi 4,vi 6,vb 10] [] 0),(29699,me [vi 4,vb 14] [] 0)]
theorem ja2(a:Nat):jv 249 ⟨[jl],(.tup (.cons I6 (.cons .bool .nil))),λt=>zm2 a t⟩:=mk1 func249 a 0 [(0,[8,9,11,12,13,15,16,18,20])] [] [] [] itn jla rn gn tn (by kernel_rfl) λt=>by kernel_rfl
def zeb(B:Nat)(t:(List jf)):Option (Int×Int×Int×Unit):=ifB (decide (512<(t.length:Int))) (some (0,0,4,())) (jn (σ:=Int×Int×(List jf)×Int×Int) (λ(a,b,c,d,e)f=>ifB (decide (e<d)) (ja (atL c e) λg=>ja (zm2 B g) λh=>J (σ:=Int×Int×Int×(List jf)×Int×Int×Bool) (λ(i,j,k,l,m,n,o)=>ifB o (some (0,0,1,())) (ifB (decide (i<k)) (some (0,0,3,())) (ja (some (w64 (i+(w64 (1-k))))) λq=>ja (some (max j q)) λr=>ja (some (w64 (n+1))) λs=>f (q,r,l,m,s)))) λp=>ja (some (!h.2.1)) λu=>ifB u (p (a,b,h.1,c,d,e,u)) (J (σ:=Int×Int×Int×(List jf)×Int×Int×Bool) (λ(v,w,x,y,z,C,D)=>p (v,w,x,y,z,C,D)) λA=>ja (some (decide (¬g.1=1))) λE=>ifB E (A (a,b,h.1,c,d,e,!(g.2.1.l == (⟨List.replicate 4 0,wch⟩:Arr 4 Int).l))) (A (a,b,h.1,c,d,e,false)))) (some (a,b,0,()))) B (0,0,t,(t.length:Int),0))
def jdt:=lk (α:=HK) [(122,me [vi 5,vi 6,(14,.v (.sl jl)),vi 15,vi 16] [] 0),(62668,me [vi 5,vi 6,vi 9,(14,.v (.sl jl)),vi 15,vi 16,vb 25] [] 0),(501347,me [vi 5,vi 6,vi 9,(14,.v (.sl jl)),vi 15,vi 16,vb 25] [] 0)]
theorem z5f(a:Nat):jv 214 ⟨[(.sl jl)],(.tup (.cons I6 (.cons I6 (.cons I6 .nil)))),λt=>zeb a t⟩:=mk1 func214 a 0 [(0,[27,30,44,47,48])] [] [] [] itn jdt rn gn (tc (ja2 a) tn) (by kernel_rfl) λt=>by kernel_rfl
def Yd(g:Nat)(f:(List jf)):Option Int:=ja (zeb g f) λa=>J (σ:=Int×Bool) (λ(b,c)=>ifB c (some 3) (some b)) λd=>ja (some (decide (a.2.2.1=0))) λe=>ifB e (d (a.2.2.1,decide (¬a.1=1))) (d (a.2.2.1,false))
def z9m:=lk (α:=HK) [(28,me [vi 5,vb 17] [] 0)]
theorem zgd(a:Nat):jv 163 ⟨[(.sl jl)],I6,λt=>Yd a t⟩:=mk1 func163 a 0 [(0,[13])] [] [] [] itn z9m rn gn (tc (z5f a) tn) (by kernel_rfl) λt=>by kernel_rfl
def Qd(w:Nat)(t:(Option qh))(v:ji):Option Int:=ja (t) λa=>J (σ:=(Option qh)×Int×ji) (λ(b,c,d)=>J (σ:=(Option qh)×Bool×ji) (λ(f,g,h)=>ifB g (some 11) (J (σ:=Bool×ji) (λ(j,k)=>ifB j (some 12) (J (λ(m:Bool)=>ifB m (some 2) (some 0)) λn=>ja (some (decide (k.2.2.1<0))) λo=>ifB o (n true) (ifB (decide (2<k.2.2.1)) (n true) (ifB (decide (k.2.2.2.1<0)) (n true) (n (decide (8<k.2.2.2.1))))))) λl=>ja (some (!h.1)) λp=>ifB p (ja (f) λq=>ja (atL q.1.1 h.2.1) λr=>l (decide (¬r.2.2.1=0),h)) (l (false,h)))) λi=>ja (some (decide (d.2.1<0))) λs=>ifB s (i (b,true,d)) (i (b,decide (c<=d.2.1),d))) λe=>ifB v.1 (ja (t) λu=>e (t,(u.1.2.1.length:Int),v)) (e (t,(a.1.1.length:Int),v))
def zjx:=lk (α:=HK) [(7,me [(0,.v (.ref qk)),vp 3 0,vi 5] [.box 65 [.v jt]] 1),(120,me [(0,.v (.ref qk)),vp 3 0,vb 20] [.box 65 [.v jt]] 1),(486,me [vp 3 0,vb 30] [.box 65 [.v jt]] 1),(1950,me [vb 47] [] 0)]
theorem zg8(a:Nat):jv 164 ⟨[(.ref qk),jt],I6,λt=>Qd a (t.1) (t.2)⟩:=mk1 func164 a 0 [(0,[23,33,50])] [] [] [] itn zjx rn gn tn (by kernel_rfl) λt=>by kernel_rfl
def zgv(r:Nat)(p:jb)(q:Int):Option W7:=jn (σ:=Int×(List jh)×Int×Int×W7) (λ(a,b,c,d,e)f=>ifB (decide (d<c)) (J (σ:=Int×(List jh)×Int×Int×W7) (λ(g,h,i,j,k)=>ja (some (w64 (j+1))) λm=>f (g,h,i,m,k)) λl=>ja (atL b d) λn=>ifB (decide (n.1=a)) (ja (apO 8 e [d]) λo=>l (a,b,c,d,o)) (l (a,b,c,d,e))) (some e)) r (q,p.2.2.1,(p.2.2.1.length:Int),0,[])
def jeq:=lk (α:=HK) [(58,me [vi 1,vo 5 0,(9,.v (.sl js)),vi 10,vi 11] [.row 3 I6] 1),(934,me [vi 1,vo 5 0,(9,.v (.sl js)),vi 10,vi 11] [.row 3 I6] 1)]
theorem z2s(a:Nat):FFOk 165 ⟨[jc,I6],3,I6,λt=>zgv a (t.1) (t.2)⟩:=mk2 func165 a 0 [(0,[24])] [(0,[(22,.told I6)])] [] [] itn jeq rn gn tn (by kernel_rfl) λt=>by kernel_rfl
theorem z4g(a:Nat):jv 165 ⟨[jc,I6],L6,λt=>zgv a (t.1) (t.2)⟩:=(z2s a).pure
def zaq(t:Nat)(C:jb):Option jd:=J (σ:=jd×qh) (λ(a,b)=>some b.2.1) λc=>J (σ:=Bool×jd×qh) (λ(d,e,f)=>ifB d (c (e,f)) (J (σ:=Bool×jd×qh) (λ(h,i,j)=>ifB h (c (i,j)) (J (σ:=Bool×jd×qh) (λ(l,m,n)=>ifB l (c (m,n)) (J (σ:=Bool×jd×qh) (λ(p,q,r)=>ifB p (c (q,r)) (J (σ:=Bool×jd×qh) (λ(u,v,w)=>ifB u (c (v,w)) (c (v,w))) λx=>J (σ:=Bool×qh) (λ(y,z)=>ifB y (x (true,q,(z.1,(11,(-1),0,()),()))) (jn (σ:=Int×Int×qh) (λ(b1,I,K)b4=>ifB (decide (I<b1)) (ja (zgv t K.1 I) λb5=>ifB (decide ((b5.length:Int)=0)) (x (true,q,(K.1,(5,I,0,()),()))) (ja (some (w64 (I+1))) λb6=>b4 (b1,b6,K))) (x (false,q,K))) t ((z.1.2.1.length:Int),0,z))) λb0=>ja (some (decide (r.1.2.2.2.1<0))) λb7=>ifB b7 (b0 (true,r)) (b0 (decide ((r.1.2.1.length:Int)<=r.1.2.2.2.1),r)))) λs=>J (σ:=Bool×qh) (λ(b8,b9)=>s (b8,m,b9)) λc0=>jn (σ:=(List jh)×Int×Int×qh) (λ(Z,c2,E,L)c5=>ifB (decide (E<c2)) (ja (atL Z E) λM=>J (σ:=Int×(List jh)×Int×Int×Bool×qh×jh) (λ(c7,c8,c9,d0,d1,d2,d3)=>ifB d1 (s (true,m,(d2.1,(11,c7,0,()),()))) (ifB (decide (16<(d3.2.1.length:Int))) (s (true,m,(d2.1,(4,c7,0,()),()))) (jn (σ:=Int×(List jh)×Int×Int×(List ji)×Int×Int×qh) (λ(d5,d6,d7,d8,d9,e0,N,O)e3=>ifB (decide (N<e0)) (ja (atL d9 N) λe4=>ja (Qd t (some O) e4) λe5=>ifB (decide (¬e5=0)) (c0 (true,(O.1,(e5,d5,w64 (N+1),()),()))) (ja (some (w64 (N+1))) λe6=>e3 (d5,d6,d7,d8,d9,e0,e6,O))) (ja (some (w64 (d8+1))) λe7=>c5 (d6,d7,e7,O))) t (c7,c8,c9,d0,d3.2.1,(d3.2.1.length:Int),0,d2)))) λd4=>ja (some (decide (M.1<0))) λe8=>ifB e8 (d4 (E,Z,c2,E,true,L,M)) (d4 (E,Z,c2,E,decide ((L.1.2.1.length:Int)<=M.1),L,M))) (c0 (false,L))) t (n.1.2.2.1,(n.1.2.2.1.length:Int),0,n))) λo=>ja (zox t j.1.1) λe9=>jn (σ:=(List W9)×Int×Int×qh×(List W9)) (λ(P,Q,D,R,S)f5=>ifB (decide (D<Q)) (ja (atL P D) λG=>J (σ:=W9×(List W9)×Int×Int×Bool×qh×(List W9)) (λ(f7,f8,f9,g0,g1,g2,g3)=>ifB g1 (o (true,i,g2)) (ja (apO 16 g3 [f7]) λg5=>ja (some (w64 (g0+1))) λg6=>f5 (f8,f9,g6,g2,g5))) λg4=>ja (zcu t G) λg7=>ifB (!g7) (g4 (G,P,Q,D,true,(R.1,(7,D,0,()),()),S)) (ja (zc7 t S G) λg8=>ifB (decide (0<=g8)) (g4 (G,P,Q,D,true,(R.1,(8,D,0,()),()),S)) (g4 (G,P,Q,D,false,R,S)))) (o (false,i,R))) t (j.1.2.1,(j.1.2.1.length:Int),0,j,e9))) λk=>ja (Yz t f.1.1) λg9=>jn (σ:=(List W9)×(List qe)×Int×Int×qh) (λ(h0,T,U,A,V)h5=>ifB (decide (A<U)) (ja (atL T A) λH=>J (σ:=(List W9)×Int×(List qe)×Int×Int×Bool×qh×qe) (λ(h7,h8,h9,i0,i1,i2,W,i4)=>ifB i2 (k (true,e,W)) (ja (Yd t i4.2.1) λi6=>ifB (decide (¬i6=0)) (k (true,e,(W.1,(9,h8,i6,()),()))) (J (σ:=(List W9)×Int×(List qe)×Int×Int×Bool×qh) (λ(i7,i8,i9,j0,j1,j2,j3)=>ifB j2 (k (true,e,(j3.1,(1,i8,0,()),()))) (ja (some (w64 (j1+1))) λj5=>h5 (i7,i9,j0,j5,j3))) λj4=>ja (some (decide (i4.2.2.1<0))) λj6=>ifB j6 (j4 (h7,h8,h9,i0,i1,true,W)) (j4 (h7,h8,h9,i0,i1,decide (3<i4.2.2.1),W))))) λi5=>ja (zk0 h0 none (some A)) λj7=>ja (zcu t H.1) λj8=>ifB (!j8) (i5 (h0,A,T,U,A,true,(V.1,(7,A,0,()),()),H)) (ja (zc7 t j7 H.1) λj9=>ifB (decide (0<=j9)) (i5 (h0,A,T,U,A,true,(V.1,(8,A,0,()),()),H)) (i5 (h0,A,T,U,A,false,V,H)))) (k (false,e,V))) t (g9,f.1.1,(f.1.1.length:Int),0,f))) λg=>jn (σ:=W7×Int×Int×qh) (λ(k0,k1,X,B)k4=>ifB (decide (X<k1)) (ja (atL k0 X) λk5=>ifB (decide (0<k5)) (g (true,(0,0,0,()),(B.1,(4,X,0,()),()))) (ja (some (w64 (X+1))) λk6=>k4 (k0,k1,k6,B))) (jn (σ:=(List (Arr 3 Int))×Int×Int×qh) (λ(k7,k8,F,l0)l1=>ifB (decide (F<k8)) (ja (atL k7 F) λY=>J (σ:=Int×(List (Arr 3 Int))×Int×Int×Bool×qh) (λ(l3,l4,l5,l6,l7,l8)=>ifB l7 (g (true,(0,0,0,()),(l8.1,(2,l3,0,()),()))) (ja (some (w64 (l6+1))) λm0=>l1 (l4,l5,m0,l8))) λl9=>ja (jw 3 1) λm1=>ja (atL Y.l m1) λm2=>ja (jw 3 0) λm3=>ja (atL Y.l m3) λm4=>ja (some (decide (m2<m4))) λm5=>ifB m5 (l9 (F,k7,k8,F,true,l0)) (ja (jw 3 1) λm6=>ja (atL Y.l m6) λm7=>ja (jw 3 2) λm8=>ja (atL Y.l m8) λm9=>l9 (F,k7,k8,F,decide (m9<m7),l0))) (g (false,(0,0,0,()),l0))) t ([(⟨[1,B.1.2.2.2.2.1,4096],rfl⟩:Arr 3 Int),(⟨[0,B.1.2.2.2.2.2.1,65536],rfl⟩:Arr 3 Int),(⟨[1,B.1.2.2.2.2.2.2.1,65536],rfl⟩:Arr 3 Int),(⟨[1,B.1.2.2.2.2.2.2.2.1,1048576],rfl⟩:Arr 3 Int)],([(⟨[1,B.1.2.2.2.2.1,4096],rfl⟩:Arr 3 Int),(⟨[0,B.1.2.2.2.2.2.1,65536],rfl⟩:Arr 3 Int),(⟨[1,B.1.2.2.2.2.2.2.1,65536],rfl⟩:Arr 3 Int),(⟨[1,B.1.2.2.2.2.2.2.2.1,1048576],rfl⟩:Arr 3 Int)].length:Int),0,B))) t ([w64 ((C.1.length:Int)-64),w64 ((C.2.1.length:Int)-64),w64 ((C.2.2.1.length:Int)-256)],([w64 ((C.1.length:Int)-64),w64 ((C.2.1.length:Int)-64),w64 ((C.2.2.1.length:Int)-256)].length:Int),0,(C,(0,0,0,()),()))
def z3e:=lk (α:=HK) [(29,me [vp 2 0,vp 3 1] [.box 36 [.v jj],.box 182 [.v qk]] 2),(58,.unroll 24),(7474,me [vp 2 0,vp 3 1,vo 24 2,(25,.ci .i64 (5)),(26,.ci .i64 (0)),vb 32] [.box 36 [.v jj],.box 182 [.v qk],.rowx 184 1 [.agg [.fn 116 [.pt 1 0] []],.agg [.fn 117 [.pt 1 0] []],.agg [.fn 118 [.pt 1 0] []],.agg [.fn 119 [.pt 1 0] []],.agg [.fn 120 [.pt 1 0] []]]] 3),(15026,me [vp 2 0,vp 3 1,vo 24 2,(25,.ci .i64 (5)),(26,.ci .i64 (1)),vb 32] [.box 36 [.v jj],.box 182 [.v qk],.rowx 184 1 [.agg [.fn 116 [.pt 1 0] []],.agg [.fn 117 [.pt 1 0] []],.agg [.fn 118 [.pt 1 0] []],.agg [.fn 119 [.pt 1 0] []],.agg [.fn 120 [.pt 1 0] []]]] 3),(30130,me [vp 2 0,vp 3 1,vo 24 2,(25,.ci .i64 (5)),(26,.ci .i64 (2)),vb 32] [.box 36 [.v jj],.box 182 [.v qk],.rowx 184 1 [.agg [.fn 116 [.pt 1 0] []],.agg [.fn 117 [.pt 1 0] []],.agg [.fn 118 [.pt 1 0] []],.agg [.fn 119 [.pt 1 0] []],.agg [.fn 120 [.pt 1 0] []]]] 3),(60338,me [vp 2 0,vp 3 1,vo 24 2,(25,.ci .i64 (5)),(26,.ci .i64 (3)),vb 32] [.box 36 [.v jj],.box 182 [.v qk],.rowx 184 1 [.agg [.fn 116 [.pt 1 0] []],.agg [.fn 117 [.pt 1 0] []],.agg [.fn 118 [.pt 1 0] []],.agg [.fn 119 [.pt 1 0] []],.agg [.fn 120 [.pt 1 0] []]]] 3),(120754,me [vp 2 0,vp 3 1,vo 24 2,(25,.ci .i64 (5)),(26,.ci .i64 (4)),vb 32] [.box 36 [.v jj],.box 182 [.v qk],.rowx 184 1 [.agg [.fn 116 [.pt 1 0] []],.agg [.fn 117 [.pt 1 0] []],.agg [.fn 118 [.pt 1 0] []],.agg [.fn 119 [.pt 1 0] []],.agg [.fn 120 [.pt 1 0] []]]] 3)]
def zuf:=lk (α:=HK) [(26,me [vp 0 0,vl 28,vi 29,vi 30] [.box 182 [.v qk]] 1),(58,me [vp 0 0,(65,.v (.sl (.arr 3 I6))),vi 66,vi 67] [.box 182 [.v qk]] 1),(7474,me [vp 0 0,vi 5,(65,.v (.sl (.arr 3 I6))),vi 66,vi 67,vb 83] [.box 182 [.v qk]] 1)]
def zue:=lk (α:=HK) [(58,me [vp 0 0,(3,.v (.sl .str)),(17,.v (.sl ve)),vi 18,vi 19] [.box 182 [.v qk]] 1),(14948,me [vp 0 0,(3,.v (.sl .str)),vi 4,vp 5 1,(17,.v (.sl ve)),vi 18,vi 19,vb 31] [.box 182 [.v qk],.box 61 [.v ve]] 2),(29902,me [vp 0 0,(3,.v (.sl .str)),vi 4,(17,.v (.sl ve)),vi 18,vi 19,vb 48] [.box 182 [.v qk]] 1)]
def zqn:=lk (α:=HK) [(58,me [vp 0 0,vo 3 1,(16,.v (.sl .str)),vi 17,vi 18] [.box 182 [.v qk],.row 9 .str] 2),(14948,me [vp 0 0,vo 3 1,(5,.v .str),(16,.v (.sl .str)),vi 17,vi 18,vb 27] [.box 182 [.v qk],.row 9 .str] 2)]
def zqy:=lk (α:=HK) [(109,me [vb 3] [.box 182 [.v qk]] 1),(218,me [vp 0 0,(3,.cb false),(13,.v (.sl js)),vi 14,vi 15] [.box 182 [.v qk]] 1),(111816,me [vp 0 0,(3,.cb false),vi 4,vp 5 1,(13,.v (.sl js)),vi 14,vi 15,vb 20] [.box 182 [.v qk],.box 68 [.v js]] 2),(111822,me [vp 0 0,(3,.cb false),vi 4,(13,.v (.sl js)),vi 14,vi 15,(47,.v (.sl jt)),vi 48,vi 49] [.box 182 [.v qk]] 1)]
def zpa:=lk (α:=HK) [(12,me [vp 0 0,vb 23] [.box 182 [.v qk]] 1),(58,me [vp 0 0,vi 31,vi 32] [.box 182 [.v qk]] 1)]
theorem zie(a:Nat):jv 53 ⟨[jc],jj,λt=>zaq a t⟩:=mk1 func53 a 9 [(1,[40,76,87]),(4,[43,52]),(10,[32]),(14,[23,65,66]),(18,[9,46])] [(0,[(24,.ownx)]),(1,[(28,.told I6),(65,.told (.arr 3 I6))]),(10,[(30,.told .str)])] [] [10000069] (itc 3220116 func116 zuf 1 [] (itc 10003220160 func160 h0 2 [] (itc 10007060160 func160 h0 3 [] (itc 3220117 func117 zue 4 [] (itc 40003270162 func162 h0 5 [] (itc 50001300160 func160 h0 6 [] (itc 50002580160 func160 h0 7 [] (itc 40005790160 func160 h0 8 [] (itc 40007060160 func160 h0 9 [] (itc 3220118 func118 zqn 10 [] (itc 100003240162 func162 h0 11 [] (itc 110001300160 func160 h0 12 [] (itc 110002580160 func160 h0 13 [] (itc 3220119 func119 zqy 14 [] (itc 140003860160 func160 h0 15 [] (itc 140005140160 func160 h0 16 [] (itc 140009010160 func160 h0 17 [] (itc 3220120 func120 zpa 18 [] (itc 180001290160 func160 h0 19 [] (itc 180004500160 func160 h0 20 [] itn (by kernel_rfl)) (by kernel_rfl)) (by kernel_rfl)) (by kernel_rfl)) (by kernel_rfl)) (by kernel_rfl)) (by kernel_rfl)) (by kernel_rfl)) (by kernel_rfl)) (by kernel_rfl)) (by kernel_rfl)) (by kernel_rfl)) (by kernel_rfl)) (by kernel_rfl)) (by kernel_rfl)) (by kernel_rfl)) (by kernel_rfl)) (by kernel_rfl)) (by kernel_rfl)) (by kernel_rfl)) z3e rn (gc (zid a) gn) (tc (ztc a) (tc (zgd a) (tc (zg8 a) (tc (z4g a) (tc (zwr a) (tc (zw8 a) tn)))))) (by kernel_rfl) λt=>by kernel_rfl
def y6(c:Nat)(b:jb):Option Bool:=ja (zaq c b) λa=>some (decide (a.1=0))
theorem zf(a:Nat):jv 68 ⟨[jc],.bool,λt=>y6 a t⟩:=mk1 func68 a 0 [] [] [] [] itn h0 rn gn (tc (zie a) tn) (by kernel_rfl) λt=>by kernel_rfl
def Ya(f:Nat)(d:ji)(e:W8):Option Bool:=J (λ(a:Bool)=>some a) λb=>ifB d.1 (ja (atL e d.2.1) λc=>b c) (b false)
def zw1:=lk (α:=HK) [(6,me [vb 4] [] 0)]
theorem znz(a:Nat):jv 227 ⟨[jt,LB],.bool,λt=>Ya a (t.1) (t.2)⟩:=mk1 func227 a 0 [] [] [] [] itn zw1 rn gn tn (by kernel_rfl) λt=>by kernel_rfl
def yl(A:Nat)(B:jb):Option W8:=J (λ(a:W8)=>some a) λb=>ja (y6 A B) λc=>ifB (!c) (b []) (ja (some (B.2.1.length:Int)) λd=>ja (mkO 1 d) λe=>jn (σ:=(List jh)×Bool×W8) (λ(f,g,h)i=>ifB g (jn (σ:=(List jh)×Bool×(List jh)×Int×Int×W8) (λ(j,k,l,m,n,o)p=>ifB (decide (n<m)) (ja (atL l n) λq=>J (σ:=(List jh)×Bool×(List jh)×Int×Int×W8) (λ(r,s,u,v,w,x)=>ja (some (w64 (w+1))) λz=>p (r,s,u,v,z,x)) λy=>ja (jw o.length q.1) λG=>ja (atL o G) λH=>ifB H (y (j,k,l,m,n,o)) (jn (σ:=(List ji)×Int×Int×W8×jh) (λ(D,E,C,t,F)I=>ifB (decide (C<E)) (ja (atL D C) λb8=>ja (Ya A b8 t) λK=>ifB (!K) (y (j,k,l,m,n,t)) (ja (some (w64 (C+1))) λc0=>I (D,E,c0,t,F))) (ja (jw t.length F.1) λL=>ja (yz t L true) λM=>y (j,true,l,m,n,M))) A (q.2.1,(q.2.1.length:Int),0,o,q))) (i (j,k,o))) A (f,false,f,(f.length:Int),0,h)) (b h)) A (B.2.2.1,true,(List.replicate e false)))
def z3v:=lk (α:=HK) [(6,me [vo 2 0] [.row 4 .bool] 1)]
def zsu:=lk (α:=HK) [(6,me [(0,.v (.sl js)),(1,.fn 167 [] [.pt 0 0,.pt 2 0]),vb 4] [.box 57 [.own 1],.row 4 .bool,.box 190 [.fn 227 [] []]] 3),(406,me [(0,.v (.sl js)),(1,.fn 167 [] [.pt 0 0,.pt 2 0]),vb 4,(8,.v (.sl js)),vi 9,vi 10] [.box 57 [.own 1],.row 4 .bool,.box 190 [.fn 227 [] []]] 3),(26009,me [(0,.v (.sl js)),(1,.fn 167 [] [.pt 0 0,.pt 2 0]),vb 4,(8,.v (.sl js)),vi 9,vi 10] [.box 57 [.own 1],.row 4 .bool,.box 190 [.fn 227 [] []]] 3)]
def zsb:=lk (α:=HK) [(58,me [vp 1 0,vp 2 2,vp 3 3,(13,.v (.sl jt)),vi 14,vi 15] [.box 57 [.own 1],.row 4 .bool,.box 190 [.fn 227 [] []],.box 68 [.v js]] 4)]
theorem zsl(a:Nat):FFOk 186 ⟨[jc],4,.bool,λt=>yl a t⟩:=mk2 func186 a 9 [(1,[11]),(2,[20]),(3,[24])] [] [] [] (itc 650124 func124 h0 1 [] (itc 10002590122 func122 zsu 2 [] (itc 20003860167 func167 zsb 3 [] itn (by kernel_rfl)) (by kernel_rfl)) (by kernel_rfl)) z3v rn gn (tc (zf a) (tc (znz a) tn)) (by kernel_rfl) λt=>by kernel_rfl
theorem zdi(a:Nat):jv 186 ⟨[jc],LB,λt=>yl a t⟩:=(zsl a).pure
def Jn(Q:Nat)(A:W7)(B:W7):Option W7:=jn (σ:=W7×W7×W7) (λ(a,b,c)d=>J (σ:=W7×W7×Bool×W7) (λ(e,f,g,h)=>ifB g (J (σ:=W7×W7×W7) (λ(j,k,l)=>d (j,k,l)) λm=>J (σ:=W7×W7×Bool×W7) (λ(n,o,p,q)=>ifB p (ja (atL n 0) λs=>ja (apO 8 q [s]) λu=>ja (zk0 n (some 1) none) λv=>m (v,o,u)) (J (σ:=W7×W7×Bool×W7) (λ(w,x,y,z)=>ifB y (ja (atL x 0) λC=>ja (apO 8 z [C]) λD=>ja (zk0 x (some 1) none) λE=>m (w,E,D)) (ja (atL w 0) λF=>ja (apO 8 z [F]) λG=>ja (zk0 w (some 1) none) λH=>ja (zk0 x (some 1) none) λI=>m (H,I,G))) λt=>ja (some (decide ((n.length:Int)=0))) λb8=>ifB b8 (t (n,o,true,q)) (ja (atL o 0) λK=>ja (atL n 0) λc0=>t (n,o,decide (K<c0),q)))) λr=>ja (some (decide ((f.length:Int)=0))) λL=>ifB L (r (e,f,true,h)) (ja (some (decide (0<(e.length:Int)))) λM=>ifB M (ja (atL e 0) λN=>ja (atL f 0) λO=>r (e,f,decide (N<O),h)) (r (e,f,false,h)))) (some h)) λi=>ja (some (decide (0<(a.length:Int)))) λP=>ifB P (i (a,b,true,c)) (i (a,b,decide (0<(b.length:Int)),c))) Q (A,B,[])
def zs3:=lk (α:=HK) [(14,me [vl 0,vl 1,vp 5 1,(6,.fn 271 [] [])] [.box 31 [.own 2],.box 275 [.fn 231 [] [.pt 0 0],.fn 231 [] [.pt 0 0],.fn 231 [] [.pt 0 0]],.row 3 I6] 3),(112,me [vl 0,vl 1,vp 5 1,(6,.fn 271 [] []),vb 14] [.box 31 [.own 2],.box 275 [.fn 231 [] [.pt 0 0],.fn 231 [] [.pt 0 0],.fn 231 [] [.pt 0 0]],.row 3 I6] 3),(114,me [vl 0,vl 1,vp 5 1,(6,.fn 271 [] [])] [.box 31 [.own 2],.box 275 [.fn 231 [] [.pt 0 0],.fn 231 [] [.pt 0 0],.fn 231 [] [.pt 0 0]],.row 3 I6] 3),(456,me [vl 0,vl 1,vp 5 1,(6,.fn 271 [] []),vb 26] [.box 31 [.own 2],.box 275 [.fn 231 [] [.pt 0 0],.fn 231 [] [.pt 0 0],.fn 231 [] [.pt 0 0]],.row 3 I6] 3),(1830,me [vl 0,vl 1,vp 5 1,(6,.fn 271 [] []),vb 53] [.box 31 [.own 2],.box 275 [.fn 231 [] [.pt 0 0],.fn 231 [] [.pt 0 0],.fn 231 [] [.pt 0 0]],.row 3 I6] 3)]
theorem Zw(a:Nat):FFOk 191 ⟨[L6,L6],3,I6,λt=>Jn a (t.1) (t.2)⟩:=mk2 func191 a 9 [(1,[9,29,33,56])] [(3,[(5,.told I6)]),(5,[(5,.told I6)]),(7,[(5,.told I6)])] [] [] (itc 1980232 func232 zs3 1 [] (itc 10003900271 func271 h0 2 [1] (itc 20000660231 func231 h0 3 [1] (itc 10005820271 func271 h0 4 [1] (itc 40000660231 func231 h0 5 [1] (itc 10001980271 func271 h0 6 [1] (itc 60000660231 func231 h0 7 [1] itn (by kernel_rfl)) (by kernel_rfl)) (by kernel_rfl)) (by kernel_rfl)) (by kernel_rfl)) (by kernel_rfl)) (by kernel_rfl)) h0 rn gn tn (by kernel_rfl) λt=>by kernel_rfl
abbrev Y0:=Jn
theorem zh8(a:Nat):jv 191 ⟨[L6,L6],L6,λt=>Jn a (t.1) (t.2)⟩:=(Zw a).pure
def Zc(q:Nat)(s:(Option zb4))(r:(List ji)):Option W7:=J (λ(a:W7)=>some a) λb=>jn (σ:=(Option zb4)×(List ji)×Int×Int×W7) (λ(c,d,e,f,g)h=>ifB (decide (f<e)) (ja (atL d f) λi=>ifB (!i.1) (ja (Y0 q g [i.2.1]) λj=>some j) (ja (c) λk=>ja (atL k.2.1 i.2.1) λl=>ja (Y0 q g l) λm=>ja (c) λn=>ja (atL n.1 i.2.1) λo=>ifB (!o) (b m) (ja (some (w64 (f+1))) λp=>h (c,d,e,p,m)))) (b g)) q (s,r,(r.length:Int),0,[])
def zkp:=lk (α:=HK) [(29,me [vo 5 0] [.row 3 I6] 1),(58,me [(0,.v (.ref zcf)),vo 5 0,(8,.v (.sl jt)),vi 9,vi 10] [.row 3 I6] 1)]
theorem za3(a:Nat):FFOk 230 ⟨[(.ref zcf),(.sl jt)],3,I6,λt=>Zc a (t.1) (t.2)⟩:=mk2 func230 a 0 [(0,[41])] [(0,[(20,.told I6)])] [] [388,457] itn zkp rn (gc (Zw a) gn) tn (by kernel_rfl) λt=>by kernel_rfl
abbrev Qt:=Zc
def Jl(t:Nat)(A:jb):Option (Option zb4):=ja (y6 t A) λa=>ifB (!a) (some none) (ja (yl t A) λb=>ja (some (A.2.1.length:Int)) λc=>ja (mkO 24 c) λd=>jn (σ:=Bool×jb×W8×W4) (λ(e,f,g,h)i=>ifB e (jn (σ:=Bool×(List jh)×Int×Int×jb×W8×W4) (λ(j,k,l,m,n,o,p)q=>ifB (decide (m<l)) (ja (atL k m) λr=>J (σ:=Bool×(List jh)×Int×Int×jb×W8×W4) (λ(s,u,v,w,x,y,z)=>ja (some (w64 (w+1))) λE=>q (s,u,v,E,x,y,z)) λB=>ja (jw p.length r.1) λF=>ja (atL p F) λG=>ja (Qt t (some (o,p,())) r.2.1) λH=>ja (Y0 t G H) λC=>ja (jw p.length r.1) λI=>ja (atL p I) λK=>ja (jw p.length r.1) λb8=>ja (yz p b8 C) λD=>ifB (decide ((K.length:Int)<(C.length:Int))) (B (true,k,l,m,n,o,D)) (B (j,k,l,m,n,o,D))) (i (j,n,o,p))) t (false,f.2.2.1,(f.2.2.1.length:Int),0,f,g,h)) (some (some (g,h,())))) t (true,A,b,(List.replicate d ([]:W7))))
def z43:=lk (α:=HK) [(250,me [vp 1 0,vp 3 1,(4,.fn 270 [] [.pt 1 0]),vb 5] [.box 26 [.v jc],.box 266 [.pt 2 0],.box 269 [.v LB,.own 3],.row 31 L6] 4),(16022,me [vp 1 0,vp 3 1,(4,.fn 270 [] [.pt 1 0]),vb 5,(22,.v (.sl js)),vi 23,vi 24] [.box 26 [.v jc],.box 266 [.pt 2 0],.box 269 [.v LB,.own 3],.row 31 L6] 4),(1025433,me [vp 1 0,vp 3 1,(4,.fn 270 [] [.pt 1 0]),vb 5,(22,.v (.sl js)),vi 23,vi 24] [.box 26 [.v jc],.box 266 [.pt 2 0],.box 269 [.v LB,.own 3],.row 31 L6] 4)]
theorem zh7(a:Nat):jv 226 ⟨[jc],(.ref zcf),λt=>Jl a t⟩:=mk1 func226 a 9 [(0,[15,34])] [] [(1000200,[(37,L6)])] [1000075,1000076] (itc 7060270 func270 h0 1 [] itn (by kernel_rfl)) z43 rn (gc (Zw a) (gc (za3 a) gn)) (tc (zf a) (tc (zdi a) tn)) (by kernel_rfl) λt=>by kernel_rfl
def zc2(h:Nat)(g:jb):Option W4:=ja (Jl h g) λa=>ifB a.isNone (some []) (ja (a) λb=>ja (some (b.2.1.length:Int)) λc=>ja (mkO 24 c) λd=>ja (a) λe=>ja (jjj (List.replicate d ([]:W7)) e.2.1) λf=>some f.2)
theorem zye(a:Nat):jv 185 ⟨[jc],M6,λt=>zc2 a t⟩:=mk1 func185 a 0 [(0,[13])] [] [] [] itn h0 rn gn (tc (zh7 a) tn) (by kernel_rfl) λt=>by kernel_rfl
def yy(H:Nat)(C:jb):Option W8:=ja (y6 H C) λa=>ifB (!a) (some []) (ja (some (C.2.1.length:Int)) λb=>ja (mkO 1 b) λc=>ja (jw (List.replicate c false).length C.2.2.2.1) λd=>ja (yz (List.replicate c false) d true) λe=>jn (σ:=(List jh)×Bool×W8) (λ(f,g,h)i=>ifB g (jn (σ:=(List jh)×Bool×(List jh)×Int×Int×W8) (λ(j,k,l,m,n,o)p=>ifB (decide (n<m)) (ja (atL l n) λq=>J (σ:=(List jh)×Bool×(List jh)×Int×Int×W8) (λ(r,s,u,v,w,x)=>ja (some (w64 (w+1))) λz=>p (r,s,u,v,z,x)) λy=>jn (σ:=Bool×(List ji)×Int×Int×W8×jh) (λ(D,E,F,A,t,G)Q=>ifB (decide (A<F)) (J (σ:=Bool×(List ji)×Int×Int×W8×jh) (λ(R,b8,S,c0,T,U)=>ja (some (w64 (c0+1))) λV=>Q (R,b8,S,V,T,U)) λL=>ja (atL E A) λB=>J (σ:=Bool×(List ji)×Int×Int×Bool×W8×jh×ji) (λ(W,M,N,O,X,I,P,Y)=>ifB X (ja (jw I.length Y.2.1) λZ=>ja (yz I Z true) λd6=>L (true,M,N,O,d6,P)) (L (W,M,N,O,I,P))) λK=>ja (jw t.length G.1) λd7=>ja (atL t d7) λd8=>ifB d8 (ifB B.1 (ja (jw t.length B.2.1) λd9=>ja (atL t d9) λe0=>K (D,E,F,A,!e0,t,G,B)) (K (D,E,F,A,false,t,G,B))) (K (D,E,F,A,false,t,G,B))) (ifB D (y (j,true,l,m,n,t)) (y (j,k,l,m,n,t)))) H (false,q.2.1,(q.2.1.length:Int),0,o,q)) (i (j,k,o))) H (f,false,f,(f.length:Int),0,h)) (some h)) H (C.2.2.1,true,e))
def zmv:=lk (α:=HK) [(6,me [(0,.v (.sl js)),(1,.fn 123 [] [.pt 0 0]),vb 4] [.box 57 [.own 1],.row 4 .bool] 2),(406,me [(0,.v (.sl js)),(1,.fn 123 [] [.pt 0 0]),vb 4,(8,.v (.sl js)),vi 9,vi 10] [.box 57 [.own 1],.row 4 .bool] 2),(26009,me [(0,.v (.sl js)),(1,.fn 123 [] [.pt 0 0]),vb 4,(8,.v (.sl js)),vi 9,vi 10] [.box 57 [.own 1],.row 4 .bool] 2)]
def zn1:=lk (α:=HK) [(58,me [vp 1 0,vp 2 2,vb 4,(8,.v (.sl jt)),vi 9,vi 10] [.box 57 [.own 1],.row 4 .bool,.box 68 [.v js]] 3),(934,me [vp 1 0,vp 2 2,vb 4,(8,.v (.sl jt)),vi 9,vi 10] [.box 57 [.own 1],.row 4 .bool,.box 68 [.v js]] 3),(7474,me [vp 1 0,vp 2 2,vb 4,vp 6 3,(8,.v (.sl jt)),vi 9,vi 10,vb 30] [.box 57 [.own 1],.row 4 .bool,.box 68 [.v js],.box 65 [.v jt]] 4)]
theorem zmt(a:Nat):FFOk 59 ⟨[jc],4,.bool,λt=>yy a t⟩:=mk2 func59 a 9 [(0,[9]),(1,[20]),(2,[35])] [] [] [] (itc 3230122 func122 zmv 1 [] (itc 10003860123 func123 zn1 2 [] itn (by kernel_rfl)) (by kernel_rfl)) h0 rn gn (tc (zf a) tn) (by kernel_rfl) λt=>by kernel_rfl
theorem zf0(a:Nat):jv 59 ⟨[jc],LB,λt=>yy a t⟩:=(zmt a).pure
def zdp(c:Nat)(b:jb):Option Int:=ja (y6 c b) λa=>ifB (!a) (some (-1)) (some (b.1.length:Int))
theorem zt4(a:Nat):jv 187 ⟨[jc],I6,λt=>zdp a t⟩:=mk1 func187 a 0 [] [] [] [] itn h0 rn gn (tc (zf a) tn) (by kernel_rfl) λt=>by kernel_rfl
def Vc(t:Nat)(B:jb):Option W4:=ja (y6 t B) λa=>ifB (!a) (some []) (ja (zc2 t B) λb=>ja (yl t B) λc=>ja (yy t B) λd=>ja (some (B.2.1.length:Int)) λe=>ja (mkO 24 e) λf=>ja (zdp t B) λg=>ja (jw (List.replicate f ([]:W7)).length B.2.2.2.1) λh=>ja (yz (List.replicate f ([]:W7)) h [g]) λi=>jn (σ:=Bool×jb×W4×W8×W8×W4) (λ(j,k,l,m,n,o)p=>ifB j (jn (σ:=Bool×(List jh)×Int×Int×jb×W4×W8×W8×W4) (λ(q,r,s,u,v,w,x,y,z)b0=>ifB (decide (u<s)) (J (σ:=Bool×(List jh)×Int×Int×jb×W4×W8×W8×W4) (λ(b1,b2,b3,b4,b5,b6,b7,b8,b9)=>ja (some (w64 (b4+1))) λc1=>b0 (b1,b2,b3,c1,b5,b6,b7,b8,b9)) λc0=>ja (atL r u) λE=>J (σ:=Bool×(List jh)×Int×Int×Bool×jb×W4×W8×W8×W4) (λ(c3,P,Q,R,c7,S,T,U,V,W)=>ifB c7 (c0 (true,P,Q,R,S,T,U,V,W)) (c0 (c3,P,Q,R,S,T,U,V,W))) λX=>ja (atL y E.1) λd4=>ifB d4 (ja (jw z.length E.1) λd5=>ja (atL z d5) λd6=>ja (some (w64 ((E.2.1.length:Int)-1))) λd7=>jn (σ:=W7×Int×W4×W8×W8×W4×jh×Bool) (λ(Y,D,F,G,H,C,I,L)e6=>ifB (decide (0<=D)) (J (σ:=W7×Int×W4×W8×W8×W4×jh×Bool) (λ(e7,e8,e9,f0,f1,f2,f3,f4)=>ja (some (w64 (e8-1))) λf6=>e6 (e7,f6,e9,f0,f1,f2,f3,f4)) λM=>ja (atL I.2.1 D) λA=>ifB (!A.1) (M ([A.2.1],D,F,G,H,C,I,L)) (ja (jw C.length A.2.1) λf8=>ja (atL C f8) λf9=>ja (Jn t f9 Y) λN=>J (σ:=Int×W7×W4×W8×W8×W4×Bool) (λ(g1,g2,K,O,Z,g6,g7)=>ja (jw g6.length g1) λg9=>ja (yz g6 g9 g2) λh0=>ja (atL O A.2.1) λh1=>ifB h1 (ja (atL K A.2.1) λh2=>ja (Jn t Y h2) λh3=>M (h3,D,K,O,Z,h0,I,g7)) (ja (atL K A.2.1) λh4=>M (h4,D,K,O,Z,h0,I,g7))) λg8=>ifB L (g8 (A.2.1,N,F,G,H,C,true)) (ja (jw C.length A.2.1) λh5=>ja (atL C h5) λh6=>g8 (A.2.1,N,F,G,H,C,decide ((h6.length:Int)<(N.length:Int)))))) (X (q,r,s,u,L,v,F,G,H,C))) t (d6,d7,w,x,y,z,E,false)) (X (q,r,s,u,false,v,w,x,y,z))) (p (q,v,w,x,y,z))) t (false,k.2.2.1,(k.2.2.1.length:Int),0,k,l,m,n,o)) (some o)) t (true,B,b,c,d,i))
def z4t:=lk (α:=HK) [(250,me [vp 1 0,vp 3 1,vb 4] [.box 26 [.v jc],.box 227 [.v M6,.v LB,.v LB,.own 2],.row 31 L6] 3),(16022,me [vp 1 0,vp 3 1,vb 4,(34,.v (.sl js)),vi 35,vi 36] [.box 26 [.v jc],.box 227 [.v M6,.v LB,.v LB,.own 2],.row 31 L6] 3),(256358,me [vp 1 0,vp 3 1,vb 4,(34,.v (.sl js)),vi 35,vi 36] [.box 26 [.v jc],.box 227 [.v M6,.v LB,.v LB,.own 2],.row 31 L6] 3),(2050866,me [vp 1 0,vp 3 1,vb 4,(34,.v (.sl js)),vi 35,vi 36,vb 52] [.box 26 [.v jc],.box 227 [.v M6,.v LB,.v LB,.own 2],.row 31 L6] 3)]
def zsj:=lk (α:=HK) [(890,me [vp 2 2,vp 3 3,vp 5 4,(6,.fn 228 [] [.pt 2 0,.pt 4 0]),vl 7,vi 8] [.box 227 [.v M6,.v LB,.v LB,.own 1],.row 31 L6,.box 225 [.pt 0 0],.box 68 [.v js],.box 4 [.v .bool]] 5),(7122,me [vp 2 2,vp 3 3,vp 5 4,(6,.fn 228 [] [.pt 2 0,.pt 4 0]),vl 7,vi 8] [.box 227 [.v M6,.v LB,.v LB,.own 1],.row 31 L6,.box 225 [.pt 0 0],.box 68 [.v js],.box 4 [.v .bool]] 5)]
def zud:=lk (α:=HK) [(6,me [vi 0,vp 2 0,vl 6] [.box 225 [.pt 1 0],.box 227 [.v M6,.v LB,.v LB,.own 2],.row 31 L6,.box 4 [.v .bool]] 4)]
theorem zig(a:Nat):jv 131 ⟨[jc],M6,λt=>Vc a t⟩:=mk1 func131 a 9 [(0,[18,53]),(1,[22,26])] [(0,[(30,.own I6)]),(1,[(37,.told I6)])] [(266,[(30,L6)])] [] (itc 7150188 func188 zsj 1 [] (itc 10006440228 func228 zud 2 [] itn (by kernel_rfl)) (by kernel_rfl)) z4t rn gn (tc (zf0 a) (tc (zf a) (tc (zye a) (tc (zdi a) (tc (zt4 a) (tc (zh8 a) tn)))))) (by kernel_rfl) λt=>by kernel_rfl
def zca(x:Nat)(w:jb)(t:(List ji)):Option Bool:=jn (σ:=(List ji)×Int×Int×jb) (λ(a,b,c,d)e=>ifB (decide (c<b)) (ja (atL a c) λf=>J (σ:=Int×(List ji)×Int×Int×jb×ji) (λ(g,h,i,j,k,l)=>J (σ:=(List ji)×Int×Int×Bool×jb) (λ(n,o,p,q,r)=>ifB q (some false) (ja (some (w64 (p+1))) λu=>e (n,o,u,r))) λs=>ja (some (decide (l.2.1<0))) λv=>ifB v (s (h,i,j,true,k)) (s (h,i,j,decide (g<=l.2.1),k))) λm=>ifB f.1 (m ((d.2.1.length:Int),a,b,c,d,f)) (m ((d.1.length:Int),a,b,c,d,f))) (some true)) x (t,(t.length:Int),0,w)
def zyx:=lk (α:=HK) [(26,me [vp 2 0,(8,.v (.sl jt)),vi 9,vi 10] [.box 26 [.v jc]] 1),(3379,me [vp 2 0,vp 6 1,vi 7,(8,.v (.sl jt)),vi 9,vi 10] [.box 26 [.v jc],.box 65 [.v jt]] 2),(13518,me [vp 2 0,(8,.v (.sl jt)),vi 9,vi 10,vb 30] [.box 26 [.v jc]] 1)]
theorem zpq(a:Nat):jv 229 ⟨[jc,(.sl jt)],.bool,λt=>zca a (t.1) (t.2)⟩:=mk1 func229 a 0 [(0,[24,31])] [] [] [] itn zyx rn gn tn (by kernel_rfl) λt=>by kernel_rfl
def zls(i:Nat)(j:jb)(h:(List ji)):Option W7:=ja (Jl i j) λa=>J (σ:=(List ji)×(Option zb4)×Bool) (λ(b,c,d)=>ifB d (some []) (ja (Qt i c b) λf=>some f)) λe=>ifB a.isNone (e (h,a,true)) (ja (zca i j h) λg=>e (h,a,!g))
def ja1:=lk (α:=HK) [(28,me [(1,.v (.sl jt)),(5,.v (.ref zcf)),vb 15] [] 0)]
theorem zy6(a:Nat):FFOk 189 ⟨[jc,(.sl jt)],3,I6,λt=>zls a (t.1) (t.2)⟩:=mk2 func189 a 0 [] [] [] [258] itn ja1 rn (gc (za3 a) gn) (tc (zh7 a) (tc (zpq a) tn)) (by kernel_rfl) λt=>by kernel_rfl
abbrev zmk:=zls
def zfd(s:Nat)(t:jb)(r:(List ji)):Option Bool:=ja (yl s t) λa=>ja (jg6 a) λb=>ifB b (some false) (jn (σ:=W8×(List ji)×Int×Int) (λ(c,d,e,f)g=>ifB (decide (f<e)) (ja (atL d f) λh=>J (σ:=W8×(List ji)×Int×Int×Bool) (λ(i,j,k,l,m)=>ifB m (some false) (ja (some (w64 (l+1))) λo=>g (i,j,k,o))) λn=>ja (some (!h.1)) λp=>ifB p (n (c,d,e,f,true)) (ifB (decide (h.2.1<0)) (n (c,d,e,f,true)) (ifB (decide ((c.length:Int)<=h.2.1)) (n (c,d,e,f,true)) (ja (atL c h.2.1) λq=>n (c,d,e,f,!q))))) (some true)) s (a,r,(r.length:Int),0))
def z7n:=lk (α:=HK) [(122,me [(5,.v LB),(12,.v (.sl jt)),vi 13,vi 14] [] 0),(15666,me [(5,.v LB),(12,.v (.sl jt)),vi 13,vi 14,vb 40] [] 0)]
theorem zvy(a:Nat):jv 190 ⟨[jc,(.sl jt)],.bool,λt=>zfd a (t.1) (t.2)⟩:=mk1 func190 a 0 [(0,[20,41])] [] [] [] itn z7n rn gn (tc (zdi a) tn) (by kernel_rfl) λt=>by kernel_rfl
def ym(h:Nat)(i:jb)(j:W4)(g:jh):Option W7:=ja (zmk h i g.2.1) λa=>J (λ(b:W7)=>some b) λc=>ja (zfd h i g.2.1) λd=>ifB d (ja (atL j g.1) λe=>ja (Y0 h a e) λf=>c f) (c a)
def ztz:=lk (α:=HK) [(7,me [vo 7 0] [.row 3 I6] 1)]
theorem zma(a:Nat):FFOk 132 ⟨[jc,M6,js],3,I6,λt=>ym a (t.1) (t.2.1) (t.2.2)⟩:=mk2 func132 a 0 [] [] [] [67,198] itn ztz rn (gc (zy6 a) (gc (Zw a) gn)) (tc (zvy a) tn) (by kernel_rfl) λt=>by kernel_rfl
theorem zet(a:Nat):jv 132 ⟨[jc,M6,js],L6,λt=>ym a (t.1) (t.2.1) (t.2.2)⟩:=(zma a).pure
def zf1(t:Nat)(A:jb):Option Bool:=jn (σ:=Int×Int×jb) (λ(a,b,c)d=>ifB (decide (b<(c.1.length:Int))) (ja (atL c.1 b) λe=>ja (atL c.1 b) λf=>ja (some (w64 ((w64 (a+(min (e.2.1.length:Int) 1000)))+(min (f.1.length:Int) 1000)))) λg=>ja (some (w64 (b+1))) λh=>d (g,h,c)) (jn (σ:=Int×Int×jb) (λ(i,j,k)l=>ifB (decide (j<(k.2.1.length:Int))) (ja (atL k.2.1 j) λm=>ja (some (w64 (i+(min (m.length:Int) 1000)))) λn=>ja (some (w64 (j+1))) λo=>l (n,o,k)) (jn (σ:=Int×Int×jb) (λ(p,q,r)s=>ifB (decide (q<(r.2.2.1.length:Int))) (ja (atL r.2.2.1 q) λu=>ja (some (w64 (p+(min (u.2.1.length:Int) 1000)))) λv=>ja (some (w64 (q+1))) λw=>s (v,w,r)) (J (λ(x:Bool)=>some x) λy=>ja (some (decide ((r.1.length:Int)<=70))) λz=>ifB z (ifB (decide ((r.2.1.length:Int)<=70)) (ifB (decide ((r.2.2.1.length:Int)<=260)) (y (decide (p<=1500))) (y false)) (y false)) (y false))) t (i,0,k))) t (a,0,c))) t (0,0,A)
def z7u:=lk (α:=HK) [(58,me [vp 1 0,vi 3,vi 4] [.box 26 [.v jc]] 1),(122,me [vp 1 0,vi 3,vi 5] [.box 26 [.v jc]] 1),(126,me [vb 2] [] 0),(250,me [vp 1 0,vi 3,vi 6] [.box 26 [.v jc]] 1)]
theorem zvj(a:Nat):jv 48 ⟨[jc],.bool,λt=>zf1 a t⟩:=mk1 func48 a 0 [(0,[13,32,39,48,55,65,69])] [] [] [] itn z7u rn gn tn (by kernel_rfl) λt=>by kernel_rfl
def zci(e:Nat)(d:jb):Option Bool:=J (λ(a:Bool)=>some a) λb=>ja (zf1 e d) λc=>ifB c (ifB (decide ((d.2.1.length:Int)<=12)) (ifB (decide ((d.1.length:Int)<=12)) (b (decide ((d.2.2.1.length:Int)<=30))) (b false)) (b false)) (b false)
def zzh:=lk (α:=HK) [(6,me [vb 2] [] 0)]
theorem zqg(a:Nat):jv 25 ⟨[jc],.bool,λt=>zci a t⟩:=mk1 func25 a 0 [] [] [] [] itn zzh rn gn (tc (zvj a) tn) (by kernel_rfl) λt=>by kernel_rfl
def Zd(k:Nat)(l:jb):Option Bool:=jn (σ:=Int×Int×jb) (λ(a,b,c)d=>ifB (decide (b<(c.1.length:Int))) (ja (atL c.1 b) λe=>ja (some (w64 (a+(min (e.2.1.length:Int) 1000)))) λf=>ja (some (w64 (b+1))) λg=>d (f,g,c)) (J (λ(h:Bool)=>some h) λi=>ja (zci k c) λj=>ifB j (ifB (decide (a<=120)) (i (decide (c.2.2.2.2.1<=200))) (i false)) (i false))) k (0,0,l)
def zy2:=lk (α:=HK) [(30,me [vb 2] [] 0),(58,me [vp 1 0,vi 3,vi 4] [.box 26 [.v jc]] 1)]
theorem zo5(a:Nat):jv 6 ⟨[jc],.bool,λt=>Zd a t⟩:=mk1 func6 a 0 [(0,[11,21])] [] [] [] itn zy2 rn gn (tc (zqg a) tn) (by kernel_rfl) λt=>by kernel_rfl
def zne(k:Nat)(j:Wb)(i:Int):Option Wb:=ja (zsd .i64 i 64) λa=>ja (zsd .i64 i 64) λb=>ja (jw 4 b) λc=>ja (atL j.l c) λd=>ja (zp6 .u64 (wr .u64 i) 64) λe=>ja (z3u .u64 1 e) λf=>ja (jw 4 a) λg=>ja (ztv j g (orI .u64 d f)) λh=>some h
theorem zsk(a:Nat):jv 113 ⟨[(.arr 4 (.int .u64)),I6],(.arr 4 (.int .u64)),λt=>zne a (t.1) (t.2)⟩:=mk1 func113 a 0 [] [] [] [] itn h0 rn gn tn (by kernel_rfl) λt=>by kernel_rfl
def zrn(c:Nat)(b:Int):Option Wb:=ja (zne c (⟨List.replicate 4 0,wch⟩) (wr .i64 b)) λa=>some a
theorem zu4(a:Nat):jv 50 ⟨[U8],(.arr 4 (.int .u64)),λt=>zrn a t⟩:=mk1 func50 a 0 [] [] [] [] itn h0 rn gn (tc (zsk a) tn) (by kernel_rfl) λt=>by kernel_rfl
def zjc(b:Nat)(a:Wb):Option (List jf):=some [(1,a,())]
theorem zv6(a:Nat):FFOk 49 ⟨[(.arr 4 (.int .u64))],164,jl,λt=>zjc a t⟩:=mk2 func49 a 0 [] [(0,[(5,.own jl)])] [] [] itn h0 rn gn tn (by kernel_rfl) λt=>by kernel_rfl
theorem zxj(a:Nat):jv 49 ⟨[(.arr 4 (.int .u64))],(.sl jl),λt=>zjc a t⟩:=(zv6 a).pure
def zlc(a:Nat):Option (List jf):=some [(2,⟨List.replicate 4 0,wch⟩,())]
theorem zql(a:Nat):FFOk 114 ⟨[],164,jl,λt=>zlc a⟩:=mk2 func114 a 0 [] [(0,[(2,.own jl)])] [] [] itn h0 rn gn tn (by kernel_rfl) λt=>by kernel_rfl
abbrev z0f:=zlc
def znx(q:Nat)(o:(List (List jf)))(p:Int):Option (List jf):=jn (σ:=(List (List jf))×Int×Int×(List jf)) (λ(a,b,c,d)e=>ifB (decide (c<(a.length:Int))) (J (σ:=(List (List jf))×Int×Int×(List jf)) (λ(f,g,h,i)=>ja (some (w64 (h+1))) λk=>e (f,g,k,i)) λj=>ja (atL a c) λl=>ja (apO 40 d l) λm=>ifB (decide (0<c)) (ja (apO 40 m [(b,⟨List.replicate 4 0,wch⟩,())]) λn=>j (a,b,c,n)) (j (a,b,c,m))) (some d)) q (o,p,0,[])
def z3b:=lk (α:=HK) [(58,me [(0,.v (.sl (.sl jl))),vi 1,vo 5 0,vi 6] [.row 164 jl] 1),(466,me [(0,.v (.sl (.sl jl))),vi 1,vo 5 0,vi 6] [.row 164 jl] 1)]
theorem zt3(a:Nat):FFOk 115 ⟨[(.sl (.sl jl)),I6],164,jl,λt=>znx a (t.1) (t.2)⟩:=mk2 func115 a 0 [(0,[13])] [(0,[(7,.own jl),(25,.told jl)])] [] [] itn z3b rn gn tn (by kernel_rfl) λt=>by kernel_rfl
abbrev z5p:=znx
def zrr(d:Nat)(c:(List (List jf))):Option (List jf):=ifB (decide ((c.length:Int)=0)) (ja (z0f d) λa=>some a) (ja (z5p d c 3) λb=>some b)
theorem zv5(a:Nat):FFOk 51 ⟨[(.sl (.sl jl))],164,jl,λt=>zrr a t⟩:=mk2 func51 a 0 [] [] [] [128,193] itn h0 rn (gc (zql a) (gc (zt3 a) gn)) tn (by kernel_rfl) λt=>by kernel_rfl
abbrev z9h:=zrr
def zdq(k:Nat)(l:W9):Option (List jf):=jn (σ:=W9×Int×(List (List jf))) (λ(a,b,c)d=>ifB (decide (b<(a.length:Int))) (ja (zmj a b) λe=>ja (zrn k e) λf=>ja (zjc k f) λg=>ja (apO 24 c [g]) λh=>ja (some (w64 (b+1))) λi=>d (a,i,h)) (ja (z9h k c) λj=>some j)) k (l,0,[])
def z4l:=lk (α:=HK) [(58,me [(0,.v .str),vo 3 0,vi 4] [.row 58 (.sl jl)] 1)]
theorem zs2(a:Nat):FFOk 26 ⟨[.str],164,jl,λt=>zdq a t⟩:=mk2 func26 a 0 [(0,[11])] [(0,[(5,.own (.sl jl)),(18,.told (.sl jl))])] [] [385] itn z4l rn (gc (zv5 a) gn) (tc (zxj a) (tc (zu4 a) tn)) (by kernel_rfl) λt=>by kernel_rfl
theorem zsa(a:Nat):jv 26 ⟨[.str],(.sl jl),λt=>zdq a t⟩:=(zs2 a).pure
def Yp(d:Nat)(c:(Option Qj)):Option jd:=ja (c) λa=>ja (zaq d a.1) λb=>some b
theorem zkv(a:Nat):jv 52 ⟨[(.ref Qi)],jj,λt=>Yp a t⟩:=mk1 func52 a 0 [] [] [] [] itn h0 rn gn (tc (zie a) tn) (by kernel_rfl) λt=>by kernel_rfl
def Vf(d:Nat)(c:(List jm)):Option (List jm):=ja (jg6 c) λa=>ifB a (some []) (ja (apO 96 [] c) λb=>some b)
theorem Qs(a:Nat):FFOk 250 ⟨[(.sl jp)],217,jp,λt=>Vf a t⟩:=mk2 func250 a 0 [] [(0,[(5,.own jp)])] [] [] itn h0 rn gn tn (by kernel_rfl) λt=>by kernel_rfl
def za(b:Nat)(a:List jm):Option (List jm):=apO 96 [] a
abbrev Vl(nn:Nat):FF:=⟨[(.sl jp)],217,jp,λt=>za nn t⟩
set_option maxHeartbeats 2000000 in
theorem Qw (nn : Nat) : FFOk 250 (Vl nn) := by
  have hu : Tryz.prog.underlying 251 = some (.slice 217) := by kernel_rfl
  have q22 : ∀ (w : World) (a : Option Addr) (n c n' c' : Nat), (binOp .eql 251 (.slice a n c) (.slice none n' c')).run Tryz.prog w = .ok (.bool a.isNone) w := fun w a n c n' c' => Lib.run_eql_slice_nil w _ _ a n c n' c' hu
  refine jbf (Qs nn) (fun x r => cloneZ _) (fun c w => ?_) fun a c w => ?_
  · go_enter Tryz.func250, Tryz.ntmps250
    go_wp2
    go_ret
    exact ⟨rfl, rfl⟩
  · have hs0 : (Jy Tryz.prog 251).map (fun r => (r.1, r.2.1, r.2.2.1)) = some (217, 12, 96) := by kernel_rfl
    obtain ⟨⟨e', k', b', z⟩, hse⟩ : ∃ r, Jy Tryz.prog 251 = some r := by
      cases h : Jy Tryz.prog 251 with
      | none => rw [h] at hs0; cases hs0
      | some r => exact ⟨r, rfl⟩
    rw [hse] at hs0
    simp only [wc3, wdn, wfm] at hs0
    obtain ⟨rfl, rfl, rfl⟩ := hs0
    obtain ⟨i, hu2, hi, hz, hsz, hby, hzs, hpos⟩ := zbl hse
    clear hse
    go_enter Tryz.func250, Tryz.ntmps250
    go_wp2_with (at_builtin; refine wpList_append_own _ rfl _ _ 251 rfl w.heap.size 217 i z 12 96 hu hi hz hsz hby hzs hpos _ _ _ rfl (World.ownsRow_made w #[] 0 (wcq _) (wem _) rfl) a 0 c [] rfl rfl (by intro j u hj; simp at hj) (by intro u hu; cases hu) (by unfold maxLen; omega) (by omega) (by simp) ?_)
    intro v' w1 hown hgrow hnil
    go_wp2
    go_ret
    refine ⟨v', rfl, hown, ?_⟩
    exact ((Below.refl _ w).alloc (wcq _) _).grown hgrow (by simp) (by intro k hk; simp [Value.ownBlock] at hk; omega)
abbrev Vm:=za
def Ju(y:Nat)(t:W6):Option Wb:=jn (σ:=W6×Int×Int×Wb×Wb) (λ(a,b,c,d,e)f=>ifB (decide (c<b)) (ja (atL a c) λg=>jn (σ:=W6×Int×Int×Int×Wb×Wb×Wb) (λ(h,i,j,k,l,m,n)o=>ifB (decide (k<4)) (ja (jw 4 k) λp=>ja (atL m.l p) λq=>ja (jw 4 k) λr=>ja (atL n.l r) λs=>ja (jw 4 k) λu=>ja (ztv m u (orI .u64 q s)) λv=>ja (some (w64 (k+1))) λw=>o (h,i,j,w,l,v,n)) (ja (some (w64 (j+1))) λx=>f (h,i,x,l,m))) y (a,b,c,0,d,e,g)) (some e)) y (t,(t.length:Int),0,⟨List.replicate 4 0,wch⟩,⟨List.replicate 4 0,wch⟩)
def z9i:=lk (α:=HK) [(58,me [vp 2 0,vp 3 1,(7,.v (.sl (.arr 4 (.int .u64)))),vi 8,vi 9] [.box 125 [.v (.arr 4 (.int .u64))],.box 125 [.v (.arr 4 (.int .u64))]] 2),(14950,me [vp 2 0,vp 3 1,vp 5 2,(7,.v (.sl (.arr 4 (.int .u64)))),vi 8,vi 9,vi 13] [.box 125 [.v (.arr 4 (.int .u64))],.box 125 [.v (.arr 4 (.int .u64))],.box 125 [.v (.arr 4 (.int .u64))]] 3)]
theorem zk8(a:Nat):jv 251 ⟨[(.sl (.arr 4 (.int .u64)))],(.arr 4 (.int .u64)),λt=>Ju a t⟩:=mk1 func251 a 0 [(0,[24,25])] [] [] [] itn z9i rn gn tn (by kernel_rfl) λt=>by kernel_rfl
def Ys(t:Nat)(r:jm)(s:jm):Option jm:=J (σ:=Bool×jm×jm×jm) (λ(a,b,c,d)=>ifB a (some (false,0,0,false,⟨List.replicate 4 0,wch⟩,⟨List.replicate 4 0,wch⟩,())) (J (σ:=jm×jm×jm×jm) (λ(f,g,h,i)=>J (σ:=jm×jm) (λ(k,l)=>some l) λm=>ifB (decide (f.2.1=0)) (ja (Ju t [f.2.2.2.2.1,g.2.2.2.2.1]) λn=>m (h,(i.1,i.2.1,i.2.2.1,i.2.2.2.1,n,i.2.2.2.2.2.1,()))) (m (h,i))) λj=>ifB b.2.2.2.1 (ja (Ju t [b.2.2.2.2.2.1,c.2.2.2.2.2.1]) λo=>j (b,c,d,(true,min (w64 (b.2.1+c.2.1)) 1099511627776,min (w64 (b.2.2.1+c.2.2.1)) 1099511627776,true,b.2.2.2.2.1,o,()))) (ja (Ju t [b.2.2.2.2.2.1,c.2.2.2.2.2.1]) λp=>j (b,c,d,(true,min (w64 (b.2.1+c.2.1)) 1099511627776,min (w64 (b.2.2.1+c.2.2.1)) 1099511627776,c.2.2.2.1,b.2.2.2.2.1,p,()))))) λe=>ja (some (!r.1)) λq=>ifB q (e (true,r,s,(false,0,0,false,⟨List.replicate 4 0,wch⟩,⟨List.replicate 4 0,wch⟩,()))) (e (!s.1,r,s,(false,0,0,false,⟨List.replicate 4 0,wch⟩,⟨List.replicate 4 0,wch⟩,())))
def z3i:=lk (α:=HK) [(12,me [vp 2 0,vp 3 1,vp 4 2,vb 13] [.box 217 [.v jp],.box 217 [.v jp],.box 217 [.v jp]] 3),(14,me [vp 2 0,vp 3 1,vp 4 2,vp 5 3] [.box 217 [.v jp],.box 217 [.v jp],.box 217 [.v jp],.box 217 [.v jp]] 4),(15,me [vp 4 0,vp 5 1] [.box 217 [.v jp],.box 217 [.v jp]] 2)]
theorem zt1(a:Nat):jv 217 ⟨[jp,jp],jp,λt=>Ys a (t.1) (t.2)⟩:=mk1 func217 a 0 [(0,[8])] [(0,[(39,.told (.arr 4 (.int .u64))),(49,.told (.arr 4 (.int .u64)))])] [] [] itn z3i rn gn (tc (zk8 a) tn) (by kernel_rfl) λt=>by kernel_rfl
def J7(i:Nat)(g:jm)(h:jm):Option jm:=ifB (!g.1) (some h) (ifB (!h.1) (some g) (J (λ(a:jm)=>some a) λb=>ifB g.2.2.2.1 (ja (Ju i [g.2.2.2.2.1,h.2.2.2.2.1]) λc=>ja (Ju i [g.2.2.2.2.2.1,h.2.2.2.2.2.1]) λd=>b (true,min g.2.1 h.2.1,max g.2.2.1 h.2.2.1,true,c,d,())) (ja (Ju i [g.2.2.2.2.1,h.2.2.2.2.1]) λe=>ja (Ju i [g.2.2.2.2.2.1,h.2.2.2.2.2.1]) λf=>b (true,min g.2.1 h.2.1,max g.2.2.1 h.2.2.1,h.2.2.2.1,e,f,()))))
def z2y:=lk (α:=HK) [(14,me [vp 4 0] [.box 217 [.v jp]] 1)]
theorem zth(a:Nat):jv 218 ⟨[jp,jp],jp,λt=>J7 a (t.1) (t.2)⟩:=mk1 func218 a 0 [] [(0,[(35,.told (.arr 4 (.int .u64))),(41,.told (.arr 4 (.int .u64)))])] [] [] itn z2y rn gn (tc (zk8 a) tn) (by kernel_rfl) λt=>by kernel_rfl
def J2(B:Nat)(t:jf)(A:(List jm)):Option jm:=ifB (decide (t.1=1)) (ifB (t.2.1.l == (⟨List.replicate 4 0,wch⟩:Arr 4 Int).l) (some (false,0,0,false,⟨List.replicate 4 0,wch⟩,⟨List.replicate 4 0,wch⟩,())) (some (true,1,1,false,t.2.1,t.2.1,()))) (ifB (decide (t.1=3)) (ja (atL A 0) λa=>ja (atL A 1) λb=>ja (Ys B a b) λc=>some c) (ifB (decide (t.1=4)) (ja (atL A 0) λd=>ja (atL A 1) λe=>ja (J7 B d e) λf=>some f) (ifB (decide (t.1=7)) (ja (atL A 0) λg=>ja (J7 B (true,0,0,false,⟨List.replicate 4 0,wch⟩,⟨List.replicate 4 0,wch⟩,()) g) λh=>some h) (J (σ:=(List jm)×Bool×jf×jm×jm) (λ(i,j,k,l,m)=>ifB j (ja (atL i 0) λo=>J (σ:=jf×jm×jm×jm) (λ(p,q,r,s)=>J (σ:=jm×jm) (λ(v,w)=>some w) λx=>ifB (decide (p.1=5)) (ja (J7 B r s) λy=>x (q,y)) (x (q,s))) λu=>ifB o.2.2.2.1 (u (k,l,m,(o.1,o.2.1,o.2.2.1,true,o.2.2.2.2.1,o.2.2.2.2.2.1,()))) (u (k,l,m,(o.1,o.2.1,o.2.2.1,decide (0<o.2.2.1),o.2.2.2.2.1,o.2.2.2.2.2.1,())))) (some m)) λn=>ja (some (decide (t.1=6))) λz=>ifB z (n (A,z,t,(false,0,0,false,⟨List.replicate 4 0,wch⟩,⟨List.replicate 4 0,wch⟩,()),(true,0,0,false,⟨List.replicate 4 0,wch⟩,⟨List.replicate 4 0,wch⟩,()))) (ja (some (decide (t.1=5))) λC=>n (A,C,t,(false,0,0,false,⟨List.replicate 4 0,wch⟩,⟨List.replicate 4 0,wch⟩,()),(true,0,0,false,⟨List.replicate 4 0,wch⟩,⟨List.replicate 4 0,wch⟩,())))))))
def zuc:=lk (α:=HK) [(15103,me [(1,.v (.sl jp)),vp 2 0,vp 4 1,vp 5 2,vb 47] [.box 164 [.v jl],.box 217 [.v jp],.box 217 [.v jp]] 3),(241658,me [vp 2 0,vp 4 1,vp 5 2,vp 6 3] [.box 164 [.v jl],.box 217 [.v jp],.box 217 [.v jp],.box 217 [.v jp]] 4),(241659,me [vp 4 0,vp 6 1] [.box 217 [.v jp],.box 217 [.v jp]] 2)]
theorem zln(a:Nat):jv 216 ⟨[jl,(.sl jp)],jp,λt=>J2 a (t.1) (t.2)⟩:=mk1 func216 a 0 [(0,[48,49])] [] [] [] itn zuc rn gn (tc (zt1 a) (tc (zth a) tn)) (by kernel_rfl) λt=>by kernel_rfl
def Vr(E:Nat)(F:(List jf)):Option jm:=J (σ:=jm×jm) (λ(a,b)=>some b) λc=>ja (Yd E F) λd=>ifB (decide (¬d=0)) (c ((false,0,0,false,⟨List.replicate 4 0,wch⟩,⟨List.replicate 4 0,wch⟩,()),(false,0,0,false,⟨List.replicate 4 0,wch⟩,⟨List.replicate 4 0,wch⟩,()))) (jn (σ:=(List jf)×Int×Int×jm×(List jm)) (λ(e,f,g,h,i)j=>ifB (decide (g<f)) (ja (atL e g) λk=>J (σ:=Int×(List jf)×Int×Int×jm×(List jm)×jf) (λ(l,m,n,o,p,q,r)=>ja (some (w64 ((q.length:Int)-l))) λu=>ja (zxs q u) λv=>ja (Vm E (q.drop v)) λw=>ja (J2 E r w) λx=>ja (Zb q u) λy=>ja (apO 96 y [x]) λz=>ja (some (w64 (o+1))) λT=>j (m,n,T,p,z)) λs=>J (σ:=Int×(List jf)×Int×Int×Int×Bool×jm×(List jm)×jf) (λ(G,t,A,B,H,U,C,b8,D)=>ifB U (s (2,t,A,B,C,b8,D)) (J (σ:=Int×(List jf)×Int×Int×Bool×jm×(List jm)×jf) (λ(V,K,L,M,W,N,O,P)=>ifB W (s (1,K,L,M,N,O,P)) (s (V,K,L,M,N,O,P))) λI=>ja (some (decide (H=5))) λQ=>ifB Q (I (G,t,A,B,Q,C,b8,D)) (ja (some (decide (H=6))) λR=>ifB R (I (G,t,A,B,R,C,b8,D)) (ja (some (decide (H=7))) λX=>I (G,t,A,B,X,C,b8,D))))) λc0=>ja (some (decide (k.1=3))) λS=>ifB S (c0 (0,e,f,g,k.1,S,h,i,k)) (ja (some (decide (k.1=4))) λY=>c0 (0,e,f,g,k.1,Y,h,i,k))) (ja (jw i.length 0) λZ=>ja (atL i Z) λd6=>c ((false,0,0,false,⟨List.replicate 4 0,wch⟩,⟨List.replicate 4 0,wch⟩,()),d6))) E (F,(F.length:Int),0,(false,0,0,false,⟨List.replicate 4 0,wch⟩,⟨List.replicate 4 0,wch⟩,()),[]))
def zyp:=lk (α:=HK) [(6,me [vp 2 0,vp 3 1] [.box 217 [.v jp],.box 217 [.v jp]] 2)]
def zp5:=lk (α:=HK) [(250,me [(1,.fn 216 [] []),vp 4 0,vo 7 1,(17,.v (.sl jl)),vi 18,vi 19] [.box 217 [.v jp],.row 217 jp] 2),(128205,me [(1,.fn 216 [] []),vp 4 0,vo 7 1,vp 9 2,vi 10,(17,.v (.sl jl)),vi 18,vi 19] [.box 217 [.v jp],.row 217 jp,.box 164 [.v jl]] 3),(256410,me [(1,.fn 216 [] []),vp 4 0,vo 7 1,vp 9 2,vi 10,(17,.v (.sl jl)),vi 18,vi 19,vi 24,vb 25] [.box 217 [.v jp],.row 217 jp,.box 164 [.v jl]] 3),(1025643,me [(1,.fn 216 [] []),vp 4 0,vo 7 1,vp 9 2,vi 10,(17,.v (.sl jl)),vi 18,vi 19,vb 28] [.box 217 [.v jp],.row 217 jp,.box 164 [.v jl]] 3)]
theorem zq5(a:Nat):jv 166 ⟨[(.sl jl)],jp,λt=>Vr a t⟩:=mk1 func166 a 9 [(1,[26,27,29,30,31,35,49])] [(1,[(47,.told jp)])] [] [1001157] (itc 650215 func215 zp5 1 [] itn (by kernel_rfl)) zyp rn (gc (Qw a) gn) (tc (zgd a) (tc (zln a) tn)) (by kernel_rfl) λt=>by kernel_rfl
def Vz(c:Nat)(b:(List jf)):Option Int:=ja (Vr c b) λa=>ifB (!a.1) (some (-1)) (some a.2.1)
theorem zi7(a:Nat):jv 121 ⟨[(.sl jl)],I6,λt=>Vz a t⟩:=mk1 func121 a 0 [] [] [] [] itn h0 rn gn (tc (zq5 a) tn) (by kernel_rfl) λt=>by kernel_rfl
def vy(c:Nat)(b:(List jf)):Option Bool:=ja (Vz c b) λa=>some (decide (a=0))
theorem zje(a:Nat):jv 57 ⟨[(.sl jl)],.bool,λt=>vy a t⟩:=mk1 func57 a 0 [] [] [] [] itn h0 rn gn (tc (zi7 a) tn) (by kernel_rfl) λt=>by kernel_rfl
def Yq(p:Nat)(o:(Option Qj)):Option jd:=J (λ(a:jd)=>some a) λb=>ja (o) λc=>jn (σ:=Int×Int×Int×Int×(Option Qj)×jd) (λ(d,e,f,g,h,i)j=>ifB (decide (g<f)) (ja (h) λk=>ja (atL k.1.1 g) λl=>ja (vy p l.2.1) λm=>ifB (!(!m)) (b (d,g,e,())) (ja (some (w64 (g+1))) λn=>j (d,e,f,n,h,i))) (b (0,0,0,()))) p (10,0,(c.1.1.length:Int),0,o,(0,0,0,()))
def zp7:=lk (α:=HK) [(6,me [vp 2 0] [.box 36 [.v jj]] 1)]
def zku:=lk (α:=HK) [(26,me [vi 1,vi 2,(3,.fn 56 [] [.pt 0 0]),vp 8 1,vi 10,vi 11] [.box 69 [.v (.ref Qi)],.box 36 [.v jj]] 2)]
theorem zkq(a:Nat):jv 54 ⟨[(.ref Qi)],jj,λt=>Yq a t⟩:=mk1 func54 a 9 [(1,[22])] [] [] [] (itc 710055 func55 zku 1 [] (itc 10002580056 func56 h0 2 [] itn (by kernel_rfl)) (by kernel_rfl)) zp7 rn gn (tc (zje a) tn) (by kernel_rfl) λt=>by kernel_rfl
def Yn(n:Nat)(o:(Option Qj)):Option jd:=ja (o) λa=>ja (yy n a.1) λb=>J (λ(c:jd)=>some c) λd=>jn (σ:=Int×Int×Int×Int×W8×jd) (λ(e,f,g,h,i,j)k=>ifB (decide (h<g)) (ja (atL i h) λl=>ifB (!l) (d (e,h,f,())) (ja (some (w64 (h+1))) λm=>k (e,f,g,m,i,j))) (d (0,0,0,()))) n (13,0,(b.length:Int),0,b,(0,0,0,()))
def zpv:=lk (α:=HK) [(14,me [vp 2 0] [.box 36 [.v jj]] 1)]
def zk3:=lk (α:=HK) [(26,me [vi 1,vi 2,(3,.fn 60 [] [.pt 0 0]),vp 8 1,vi 10,vi 11] [.box 57 [.v LB],.box 36 [.v jj]] 2)]
theorem zko(a:Nat):jv 58 ⟨[(.ref Qi)],jj,λt=>Yn a t⟩:=mk1 func58 a 9 [(1,[22])] [] [] [] (itc 1310055 func55 zk3 1 [] (itc 10002580060 func60 h0 2 [] itn (by kernel_rfl)) (by kernel_rfl)) zpv rn gn (tc (zf0 a) tn) (by kernel_rfl) λt=>by kernel_rfl
def Yi(g:Nat)(e:ji)(f:W8):Option Bool:=J (λ(a:Bool)=>some a) λb=>ja (some (!e.1)) λc=>ifB c (b true) (ja (atL f e.2.1) λd=>b d)
def zwn:=lk (α:=HK) [(6,me [vb 4] [] 0)]
theorem zm3(a:Nat):jv 125 ⟨[jt,LB],.bool,λt=>Yi a (t.1) (t.2)⟩:=mk1 func125 a 0 [(0,[7])] [] [] [] itn zwn rn gn tn (by kernel_rfl) λt=>by kernel_rfl
def Vd(A:Nat)(B:jb):Option W8:=J (λ(a:W8)=>some a) λb=>ja (y6 A B) λc=>ifB (!c) (b []) (ja (some (B.2.1.length:Int)) λd=>ja (mkO 1 d) λe=>jn (σ:=(List jh)×Bool×W8) (λ(f,g,h)i=>ifB g (jn (σ:=(List jh)×Bool×(List jh)×Int×Int×W8) (λ(j,k,l,m,n,o)p=>ifB (decide (n<m)) (ja (atL l n) λq=>J (σ:=(List jh)×Bool×(List jh)×Int×Int×W8) (λ(r,s,u,v,w,x)=>ja (some (w64 (w+1))) λz=>p (r,s,u,v,z,x)) λy=>ja (jw o.length q.1) λG=>ja (atL o G) λH=>ifB H (y (j,k,l,m,n,o)) (jn (σ:=(List ji)×Int×Int×W8×jh) (λ(D,E,C,t,F)I=>ifB (decide (C<E)) (ja (atL D C) λb8=>ja (Yi A b8 t) λK=>ifB (!K) (y (j,k,l,m,n,t)) (ja (some (w64 (C+1))) λc0=>I (D,E,c0,t,F))) (ja (jw t.length F.1) λL=>ja (yz t L true) λM=>y (j,true,l,m,n,M))) A (q.2.1,(q.2.1.length:Int),0,o,q))) (i (j,k,o))) A (f,false,f,(f.length:Int),0,h)) (b h)) A (B.2.2.1,true,(List.replicate e false)))
def z5l:=lk (α:=HK) [(6,me [vo 2 0] [.row 4 .bool] 1)]
def zsw:=lk (α:=HK) [(6,me [(0,.v (.sl js)),(1,.fn 167 [] [.pt 0 0,.pt 2 0]),vb 4] [.box 57 [.own 1],.row 4 .bool,.box 190 [.fn 125 [] []]] 3),(406,me [(0,.v (.sl js)),(1,.fn 167 [] [.pt 0 0,.pt 2 0]),vb 4,(8,.v (.sl js)),vi 9,vi 10] [.box 57 [.own 1],.row 4 .bool,.box 190 [.fn 125 [] []]] 3),(26009,me [(0,.v (.sl js)),(1,.fn 167 [] [.pt 0 0,.pt 2 0]),vb 4,(8,.v (.sl js)),vi 9,vi 10] [.box 57 [.own 1],.row 4 .bool,.box 190 [.fn 125 [] []]] 3)]
def ztr:=lk (α:=HK) [(58,me [vp 1 0,vp 2 2,vp 3 3,(13,.v (.sl jt)),vi 14,vi 15] [.box 57 [.own 1],.row 4 .bool,.box 190 [.fn 125 [] []],.box 68 [.v js]] 4)]
theorem zsp(a:Nat):FFOk 62 ⟨[jc],4,.bool,λt=>Vd a t⟩:=mk2 func62 a 9 [(1,[11]),(2,[20]),(3,[24])] [] [] [] (itc 650124 func124 h0 1 [] (itc 10002590122 func122 zsw 2 [] (itc 20003860167 func167 ztr 3 [] itn (by kernel_rfl)) (by kernel_rfl)) (by kernel_rfl)) z5l rn gn (tc (zf a) (tc (zm3 a) tn)) (by kernel_rfl) λt=>by kernel_rfl
theorem ztp(a:Nat):jv 62 ⟨[jc],LB,λt=>Vd a t⟩:=(zsp a).pure
def Ym(n:Nat)(o:(Option Qj)):Option jd:=ja (o) λa=>ja (Vd n a.1) λb=>J (λ(c:jd)=>some c) λd=>jn (σ:=Int×Int×Int×Int×W8×jd) (λ(e,f,g,h,i,j)k=>ifB (decide (h<g)) (ja (atL i h) λl=>ifB (!l) (d (e,h,f,())) (ja (some (w64 (h+1))) λm=>k (e,f,g,m,i,j))) (d (0,0,0,()))) n (14,0,(b.length:Int),0,b,(0,0,0,()))
def zrc:=lk (α:=HK) [(14,me [vp 2 0] [.box 36 [.v jj]] 1)]
def zkw:=lk (α:=HK) [(26,me [vi 1,vi 2,(3,.fn 63 [] [.pt 0 0]),vp 8 1,vi 10,vi 11] [.box 57 [.v LB],.box 36 [.v jj]] 2)]
theorem zk5(a:Nat):jv 61 ⟨[(.ref Qi)],jj,λt=>Ym a t⟩:=mk1 func61 a 9 [(1,[22])] [] [] [] (itc 1310055 func55 zkw 1 [] (itc 10002580063 func63 h0 2 [] itn (by kernel_rfl)) (by kernel_rfl)) zrc rn gn (tc (ztp a) tn) (by kernel_rfl) λt=>by kernel_rfl
def Ja:(Bool×(List (je×W7×Unit))×je×je×W8)->Option MS:=λ(c,a,d,b8,b)=>some ⟨3,1,0,1,jr,3,I6,a,0,b⟩
def qr(z:Nat):Nat->(Bool×(List (je×W7×Unit))×je×je×W8)->Option (Bool×(List (je×W7×Unit))×je×je×W8):=λc0(c,a,f,b8,d)=>ja (zpz a c0) λy=>J (σ:=Bool×(List (je×W7×Unit))×je×je×W8) (λ(l,m,n,o,p)=>some (l,m,n,o,p)) λh=>ja (zx2 (d.set c0 true) a c0) λb=>J (σ:=Bool×Bool×(List (je×W7×Unit))×je×je×je×W8) (λ(q,r,i,j,s,t,k)=>ifB r (h (q,i,j,s,k)) (h (true,i,j,t,k))) λg=>ja (atL (a.map λe=>e.2.1) (c0:Int)) λu=>ja (some (decide ((u.length:Int)<2))) λv=>ifB v (g (c,true,a,f,b8,b.1,(d.set c0 true))) (ifB c (ja (some (decide (b8.1<b.1.1))) λw=>ifB w (g (c,true,a,f,b8,b.1,(d.set c0 true))) (ja (some (decide (b8.1=b.1.1))) λx=>ifB x (g (c,decide (b8.2.1<b.1.2.1),a,f,b8,b.1,(d.set c0 true))) (g (c,false,a,f,b8,b.1,(d.set c0 true))))) (g (c,false,a,f,b8,b.1,(d.set c0 true))))
def zef(A:Nat)(E:((Bool×(List (je×W7×Unit))×je×je×W8)->Option (jd×Int×Unit))->(Bool×(List (je×W7×Unit))×je×je×W8)->Option (jd×Int×Unit))(t:jb):Option (jd×Int×Unit):=ja (y6 A t) λa=>ifB (!a) (some ((0,0,0,()),(-1),())) (ja (Vc A t) λb=>jn (σ:=W4×(List jh)×Int×Int×jb×(List (je×W7×Unit))) (λ(c,d,e,f,g,h)i=>ifB (decide (f<e)) (ja (atL d f) λj=>ja (ym A g c j) λk=>jn (σ:=W4×Int×(List jh)×Int×Int×W7×Int×Int×jb×(List (je×W7×Unit))×jh) (λ(l,m,n,o,p,q,r,s,u,v,w)x=>ifB (decide (s<r)) (ja (atL q s) λy=>ja (z8o zex (w.1,y,()) v) λz=>ja (ja (atL (z.2.map λe=>e.2.1) (z.1:Int)) λF=>apO 8 F [m]) λG=>ja (z0a z.2 ((z.1:Int).toNat) (z.1:Int) G) λH=>ja (some (w64 (s+1))) λI=>x (l,m,n,o,p,q,r,I,u,H,w)) (ja (some (w64 (p+1))) λK=>i (l,n,o,K,u,v))) A (c,f,d,e,f,k,(k.length:Int),0,g,h,j)) (E (λ(L,B,Q,C,R)=>ifB (!L) (some ((0,0,0,()),(-1),())) (ja (kIx zex C (B.map λe=>e.1)) λD=>ja (ja (atL (B.map λe=>e.2.1) (D:Int)) λM=>jw M.length 1) λN=>ja (ja (atL (B.map λe=>e.2.1) (D:Int)) λO=>atL O N) λP=>some ((15,C.1,C.2.1,()),P,()))) (false,h,(0,0,()),(0,0,()),(List.replicate h.length false)))) A (b,t.2.2.1,(t.2.2.1.length:Int),0,t,([]:List (je×List Int×Unit))))
def Jp(a:Nat)(b:jb):Option (jd×Int×Unit):=zef a (znf Ja (qr a)) b
def zej(a:Nat)(b:jb):Option (jd×Int×Unit):=zef a (mrC Ja (qr a)) b
def zk1(e:je×List Int×Unit)(s:Bool×je):Bool×je:=if e.2.1.length<2\/(s.1=true/\(s.2.1<e.1.1\/s.2.1=e.1.1/\s.2.2.1<e.1.2.1))then s else(true,e.1)
theorem jd8(a b:je×List Int×Unit)(s:Bool×je):zk1 b (zk1 a s)=zk1 a (zk1 b s):=by
 obtain⟨⟨c,d,_⟩,e,_⟩:=a;obtain⟨⟨f,g,_⟩,h,_⟩:=b;obtain⟨i,j,k,_⟩:=s;unfold zk1
 grind
theorem zau{α:Type}{mk:List Bool}{es:List α}{j:Nat}(h:mk.length=es.length):zx2 mk es j=es[j]?:=by
 unfold zx2;rw[h,wev];rfl
theorem zj7{α:Type}{mk:List Bool}{es:List α}{j:Nat}(h:mk.length≠es.length):zx2 mk es j=none:=by
 unfold zx2;cases a:Nat.beq mk.length es.length with
 |true=>exact absurd (wcj a) h
 |false=>rfl
theorem z29{α β:Type}{es:List (α×List β×Unit)}{j:Nat}{e:α×List β×Unit}(h:es[j]?=some e):atL (es.map λe=>e.2.1) (j:Int)=some e.2.1:=by
 unfold atL;rw[wcp];simp[h]
theorem zhr(l j:Nat)(i:Bool)(es:List (je×(List Int)×Unit))(r f:je)(mk:List Bool):qr l j (i,es,r,f,mk)=ja (zx2 (mk.set j true) es j) λe=>some ((zk1 e (i,f)).1,es,r,(zk1 e (i,f)).2,mk.set j true):=by
 by_cases h:(mk.set j true).length=es.length
 ·have b:=zau (es:=es) (j:=j) h;unfold qr;cases a:es[j]? with
  |none=>simp only[zpz,a,b,ja]
  |some e=>
   simp only[zpz,a,b,ja,J,z29 a];unfold zk1;by_cases c:e.2.1.length<2
   ·have:decide ((e.2.1.length:Int)<2)=true:=by simp;omega
    simp only[this,ifB,c,true_or,if_true]
   ·have:decide ((e.2.1.length:Int)<2)=false:=by simp;omega
    simp only[this,ifB,c,false_or];cases i with
    |false=>simp
    |true=>
     by_cases d:f.1<e.1.1
     ·simp[d]
     ·by_cases g:f.1=e.1.1
      ·by_cases k:f.2.1<e.1.2.1<;>simp[g,k]
      ·simp[d,g]
 ·have b:=zj7 (es:=es) (j:=j) h;unfold qr;cases a:es[j]? with
  |none=>simp only[zpz,a,b,ja]
  |some e=>simp only[zpz,a,b,ja,J]
theorem zcx(p:Nat):zyh Ja (qr p) where
 keep:=λj t s m h d=>by
  obtain⟨i,n,r,f,mk⟩:=t;rw[zhr]at h;obtain⟨e,_,o⟩:=yb h;cases o;cases d;rfl
 swap:=λa b t m x y g d k l q=>by
  obtain⟨i,n,r,f,mk⟩:=t;cases d;simp only at k l;by_cases c:mk.length=n.length
  ·rw[zhr,zhr,zau (by simpa using c),zau (by simpa using c),k,l];simp only[ja,zhr];rw[zau (by simpa using c),zau (by simpa using c),k,l];simp only[ja];have h:=jd8 x y (i,f);rw[show((zk1 x (i,f)).1,(zk1 x (i,f)).2)=zk1 x (i,f)from rfl,show((zk1 y (i,f)).1,(zk1 y (i,f)).2)=zk1 y (i,f)from rfl,h,List.set_comm _ _ g]
  ·rw[zhr,zhr,zj7 (by simpa using c),zj7 (by simpa using c)];rfl
theorem zn6(a:Nat)(b:jb):zej a b=Jp a b:=by
 unfold zej Jp;simp only[z32 (zcx a)]
def zqa:=lk (α:=HK) [(58,me [vp 1 0,vo 3 1,(4,.v M6),(14,.v (.sl js)),vi 15,vi 16] [.box 26 [.v jc],.mrows jr 3 I6] 2),(14950,me [vp 1 0,vo 3 1,(4,.v M6),vi 5,vp 6 2,(14,.v (.sl js)),vi 15,vi 16,vl 24,vi 25,vi 26] [.box 26 [.v jc],.mrows jr 3 I6,.box 68 [.v js]] 3)]
def zqv:=lk (α:=HK) [(58,.mr ⟨[(2,.pt 1 0),(4,.pt 2 0),(5,.v .bool),(10,.own 3)],[(0,.mrows jr 3 I6),(1,.box 138 [.v jr]),(2,.box 138 [.v jr]),(3,.iter 0)],4⟩),(467,me [vp 2 1,vp 4 2,vb 5,vo 10 3] [.mrows jr 3 I6,.box 138 [.v jr],.box 138 [.v jr],.iter 0] 4),(7476,me [vp 2 1,vp 4 2,vb 5,vp 6 3,vo 10 4,vb 42] [.mrows jr 3 I6,.box 138 [.v jr],.box 138 [.v jr],.box 138 [.v jr],.iter 0] 5)]
theorem zqz(a:Nat):jv 65 ⟨[jc],(.tup (.cons jj (.cons I6 .nil))),λt=>Jp a t⟩:=by
 have h:(λt=>Jp a t:DL [jc]->Option (Ty.D (.tup (.cons jj (.cons I6 .nil)))))=λt=>zej a t:=funext λt=>(zn6 a t).symm;rw[h];exact mk1 func65 a 9 [(1,[42,43]),(2,[18,26,32])] [(1,[(10,(.mrows jr 3 I6)),(38,.told I6)])] [] [] (itc 1930069 func69 zqa 1 [] (itc 2570070 func70 zqv 2 [] itn (by kernel_rfl)) (by kernel_rfl)) h0 rn gn (tc (zf a) (tc (zig a) (tc (zet a) tn))) (by kernel_rfl) λt=>by kernel_rfl
def Yr(d:Nat)(c:(Option Qj)):Option jd:=ja (c) λa=>ja (Jp d a.1) λb=>some b.1
theorem zk2(a:Nat):jv 64 ⟨[(.ref Qi)],jj,λt=>Yr a t⟩:=mk1 func64 a 0 [] [] [] [] itn h0 rn gn (tc (zqz a) tn) (by kernel_rfl) λt=>by kernel_rfl
def zbi(b:Nat)(a:Int):Option Bool:=some (decide (¬a=a))
theorem zkt(a:Nat):jv 278 ⟨[I6],.bool,λt=>zbi a t⟩:=mk1 func278 a 0 [] [] [] [] itn h0 rn gn tn (by kernel_rfl) λt=>by kernel_rfl
def Zz(g:Nat)(e:Int)(f:Int):Option Bool:=J (λ(a:Bool)=>some a) λb=>ja (zbi g e) λc=>ifB c (ja (zbi g f) λd=>ifB (!d) (b true) (b (decide (e<f)))) (b (decide (e<f)))
def zuh:=lk (α:=HK) [(6,me [vb 4] [] 0)]
theorem zmi(a:Nat):jv 258 ⟨[I6,I6],.bool,λt=>Zz a (t.1) (t.2)⟩:=mk1 func258 a 0 [] [] [] [] itn zuh rn gn (tc (zkt a) tn) (by kernel_rfl) λt=>by kernel_rfl
def yx(g:Nat)(e:W7)(f:W7):Option W7:=ja (small7 e e) λa=>ja (apO 8 a f) λb=>ja (small7 b (za6 b)) λc=>ja (small7 c (Vi c)) λd=>some d
theorem ztw(a:Nat):FFOk 256 ⟨[L6,L6],3,I6,λt=>yx a (t.1) (t.2)⟩:=mk2 func256 a 0 [] [] [] [] itn h0 rn gn tn (by kernel_rfl) λt=>by kernel_rfl
theorem ztl(a:Nat):jv 256 ⟨[L6,L6],L6,λt=>yx a (t.1) (t.2)⟩:=(ztw a).pure
def Q4(t:Nat)(O:(List jf)):Option (Option zx4):=ja (Yd t O) λa=>ifB (decide (¬a=0)) (some none) (jn (σ:=(List jf)×Int×Int×Bool×Int×W6×W4×W7×W7×(List qy)) (λ(b,c,d,e,f,g,h,i,j,k)l=>ifB (decide (d<c)) (ja (atL b d) λm=>J (σ:=(List jf)×Int×Int×Bool×Int×qy×W6×W4×W7×W7×(List qy)) (λ(n,o,p,q,r,s,u,v,w,x,y)=>ja (apO 64 y [s]) λb0=>ja (some (w64 (p+1))) λb1=>l (n,o,b1,q,r,u,v,w,x,b0)) λz=>ifB (decide (m.1=1)) (ja (some (g.length:Int)) λW=>ja (apO 32 g [m.2.1]) λb3=>ja (apO 24 h [[]]) λb4=>z (b,c,d,e,f,(([W],[W],false,()),1,()),b3,b4,i,j,k)) (ifB (decide (m.1=2)) (z (b,c,d,e,f,(([],[],true,()),0,()),g,h,i,j,k)) (ifB (decide (m.1=3)) (ja (jw k.length (w64 ((k.length:Int)-1))) λb5=>ja (atL k b5) λB=>ja (Zb k (w64 ((k.length:Int)-1))) λE=>ja (jw E.length (w64 ((E.length:Int)-1))) λb8=>ja (atL E b8) λA=>ja (Zb E (w64 ((E.length:Int)-1))) λc0=>jn (σ:=W7×W7×Int×Int×Bool×Int×W6×W4×W7×W7) (λ(X,Y,Z,P,Q,R,S,D,T,U)d1=>ifB (decide (P<Z)) (ja (atL Y P) λd2=>ja (jw D.length d2) λd3=>ja (atL D d3) λd4=>ja (yx t d4 X) λd5=>ja (jw D.length d2) λd6=>ja (yz D d6 d5) λd7=>ja (some (w64 (P+1))) λd8=>d1 (X,Y,Z,d8,Q,R,S,d7,T,U)) (J (σ:=Bool×Int×W6×W4×W7×W7×qy×qy×Bool×Int×qy×W7×W7) (λ(d9,e0,e1,e2,e3,e4,L,V,e7,e8,M,f0,f1)=>J (σ:=Bool×Int×W6×W4×W7×W7×qy×qy×Bool×Int×qy×W7×W7) (λ(f3,f4,f5,f6,f7,f8,f9,g0,g1,g2,N,g4,g5)=>J (σ:=Bool×Int×W6×W4×W7×W7×Bool×Int×qy×W7×W7) (λ(g7,g8,g9,h0,h1,h2,h3,h4,h5,h6,h7)=>z (b,c,d,g7,g8,h5,g9,h0,h1,h2,c0)) λh8=>ifB g0.1.2.2.1 (ja (yx t f9.1.2.1 g0.1.2.1) λh9=>h8 (f3,f4,f5,f6,f7,f8,g1,g2,((N.1.1,h9,N.1.2.2.1,()),N.2.1,()),g4,g5)) (h8 (f3,f4,f5,f6,f7,f8,g1,g2,N,g4,g5))) λg6=>ifB L.1.2.2.1 (ja (yx t L.1.1 V.1.1) λi0=>g6 (d9,e0,e1,e2,e3,e4,L,V,e7,e8,((i0,M.1.2.1,M.1.2.2.1,()),M.2.1,()),f0,f1)) (g6 (d9,e0,e1,e2,e3,e4,L,V,e7,e8,M,f0,f1))) λf2=>ifB A.1.2.2.1 (f2 (Q,R,S,D,T,U,A,B,false,0,((A.1.1,B.1.2.1,B.1.2.2.1,()),w64 (A.2.1+B.2.1),()),[],[])) (f2 (Q,R,S,D,T,U,A,B,false,0,((A.1.1,B.1.2.1,false,()),w64 (A.2.1+B.2.1),()),[],[])))) t (B.1.1,A.1.2.1,(A.1.2.1.length:Int),0,e,f,g,h,i,j)) (ifB (decide (m.1=4)) (ja (jw k.length (w64 ((k.length:Int)-1))) λi1=>ja (atL k i1) λF=>ja (Zb k (w64 ((k.length:Int)-1))) λG=>ja (jw G.length (w64 ((G.length:Int)-1))) λi4=>ja (atL G i4) λH=>ja (Zb G (w64 ((G.length:Int)-1))) λi6=>J (σ:=(List jf)×Int×Int×Bool×Int×qy×W6×W4×W7×W7×(List qy)) (λ(i7,i8,i9,j0,j1,j2,j3,j4,j5,j6,j7)=>z (i7,i8,i9,j0,j1,j2,j3,j4,j5,j6,j7)) λj8=>ja (yx t H.1.1 F.1.1) λj9=>ja (yx t H.1.2.1 F.1.2.1) λk0=>ifB H.1.2.2.1 (j8 (b,c,d,e,f,((j9,k0,true,()),w64 (H.2.1+F.2.1),()),g,h,i,j,i6)) (j8 (b,c,d,e,f,((j9,k0,F.1.2.2.1,()),w64 (H.2.1+F.2.1),()),g,h,i,j,i6))) (ja (jw k.length (w64 ((k.length:Int)-1))) λk1=>ja (atL k k1) λI=>ja (Zb k (w64 ((k.length:Int)-1))) λk3=>J (σ:=(List jf)×Int×Int×Bool×Int×jf×qy×W6×W4×W7×W7×(List qy)) (λ(k4,k5,k6,k7,k8,k9,C,l1,l2,l3,l4,l5)=>J (σ:=(List jf)×Int×Int×Bool×Int×qy×W6×W4×W7×W7×(List qy)) (λ(l7,l8,l9,m0,m1,m2,m3,m4,m5,m6,m7)=>z (l7,l8,l9,m0,m1,m2,m3,m4,m5,m6,m7)) λm8=>ifB C.1.2.2.1 (m8 (k4,k5,k6,k7,k8,((C.1.1,C.1.2.1,true,()),C.2.1,()),l1,l2,l3,l4,l5)) (m8 (k4,k5,k6,k7,k8,((C.1.1,C.1.2.1,decide (¬k9.1=6),()),C.2.1,()),l1,l2,l3,l4,l5))) λl6=>ifB (decide (¬m.1=7)) (jn (σ:=W7×W7×Int×Int×Bool×Int×W6×W4×W7×W7) (λ(m9,n0,n1,n2,n3,n4,n5,K,n7,n8)n9=>ifB (decide (n2<n1)) (ja (atL n0 n2) λo0=>ja (jw K.length o0) λo1=>ja (atL K o1) λo2=>ja (yx t o2 m9) λo3=>ja (jw K.length o0) λo4=>ja (yz K o4 o3) λo5=>ja (some (w64 (n2+1))) λo6=>n9 (m9,n0,n1,o6,n3,n4,n5,o5,n7,n8)) (l6 (b,c,d,n3,n4,m,I,n5,K,n7,n8,k3))) t (I.1.1,I.1.2.1,(I.1.2.1.length:Int),0,e,f,g,h,i,j)) (l6 (b,c,d,e,f,m,I,g,h,i,j,k3))))))) (ja (jw k.length 0) λo7=>ja (atL k o7) λo8=>some (some (g,h,o8,())))) t (O,(O.length:Int),0,false,0,[],[],[],[],[]))
def z6v:=lk (α:=HK) [(506,me [vp 3 0,vp 4 1,(5,.fn 253 [] [.pt 1 0]),(18,.v (.sl jl)),vi 19,vi 20] [.box 262 [.own 2,.own 3,.agg [.agg [.own 4,.own 5,.v .bool],.v I6]],.box 296 [.own 6],.row 125 (.arr 4 (.int .u64)),.row 31 L6,.row 3 I6,.row 3 I6,.row 260 vd] 7),(259277,me [vp 3 0,vp 4 1,(5,.fn 253 [] [.pt 1 0]),vp 8 2,(18,.v (.sl jl)),vi 19,vi 20] [.box 262 [.own 3,.own 4,.agg [.agg [.own 5,.own 6,.v .bool],.v I6]],.box 296 [.own 7],.box 260 [.v vd],.row 125 (.arr 4 (.int .u64)),.row 31 L6,.row 3 I6,.row 3 I6,.row 260 vd] 8),(265500157,me [vp 3 0,vp 4 1,(5,.fn 253 [] [.pt 1 0]),vp 8 2,(18,.v (.sl jl)),vi 19,vi 20] [.box 262 [.own 3,.own 4,.agg [.agg [.own 5,.own 6,.v .bool],.v I6]],.box 296 [.own 7],.box 260 [.v vd],.row 125 (.arr 4 (.int .u64)),.row 31 L6,.row 3 I6,.row 3 I6,.row 260 vd] 8),(265500159,me [vp 3 0,vp 4 1,(5,.fn 253 [] [.pt 1 0]),vp 7 2,vp 8 3,(18,.v (.sl jl)),vi 19,vi 20] [.box 262 [.own 4,.own 5,.agg [.agg [.own 6,.own 7,.v .bool],.v I6]],.box 296 [.own 8],.box 164 [.v jl],.box 260 [.v vd],.row 125 (.arr 4 (.int .u64)),.row 31 L6,.row 3 I6,.row 3 I6,.row 260 vd] 9),(531000319,me [vp 3 0,vp 4 1,(5,.fn 253 [] [.pt 1 0]),vp 8 2,(18,.v (.sl jl)),vi 19,vi 20] [.box 262 [.own 3,.own 4,.agg [.agg [.own 5,.own 6,.v .bool],.v I6]],.box 296 [.own 7],.box 260 [.v vd],.row 125 (.arr 4 (.int .u64)),.row 31 L6,.row 3 I6,.row 3 I6,.row 260 vd] 8)]
def zxh:=lk (α:=HK) [(14,me [vp 4 5,vp 5 6,vp 6 7,vp 7 8] [.box 262 [.own 1,.own 2,.agg [.agg [.own 3,.own 4,.v .bool],.v I6]],.row 125 (.arr 4 (.int .u64)),.row 31 L6,.row 3 I6,.row 3 I6,.box 260 [.v vd],.box 260 [.v vd],.box 260 [.agg [.own 9,.own 10,.v .bool],.v I6],.box 260 [.v vd],.row 3 I6,.row 3 I6] 11),(15,me [vp 4 5,vp 5 6,vp 6 7,vp 7 8] [.box 262 [.own 1,.own 2,.agg [.agg [.own 3,.own 4,.v .bool],.v I6]],.row 125 (.arr 4 (.int .u64)),.row 31 L6,.row 3 I6,.row 3 I6,.box 260 [.v vd],.box 260 [.v vd],.box 260 [.agg [.own 9,.own 10,.v .bool],.v I6],.box 260 [.v vd],.row 3 I6,.row 3 I6] 11),(31,me [vp 6 5,vp 7 6] [.box 262 [.own 1,.own 2,.agg [.agg [.own 3,.own 4,.v .bool],.v I6]],.row 125 (.arr 4 (.int .u64)),.row 31 L6,.row 3 I6,.row 3 I6,.box 260 [.agg [.own 7,.own 8,.v .bool],.v I6],.box 260 [.v vd],.row 3 I6,.row 3 I6] 9)]
def zxt:=lk (α:=HK) [(6,me [vp 0 0,vl 2,vl 8,vi 9,vi 10] [.box 262 [.own 1,.own 2,.agg [.agg [.own 3,.own 4,.v .bool],.v I6]],.row 125 (.arr 4 (.int .u64)),.row 31 L6,.row 3 I6,.row 3 I6] 5)]
def zu2:=lk (α:=HK) [(6,me [vp 0 0,vl 2,vl 8,vi 9,vi 10] [.box 262 [.own 1,.own 2,.agg [.agg [.own 3,.own 4,.v .bool],.v I6]],.row 125 (.arr 4 (.int .u64)),.row 31 L6,.row 3 I6,.row 3 I6] 5)]
theorem za4(a:Nat):jv 222 ⟨[(.sl jl)],(.ref zv7),λt=>Q4 a t⟩:=mk1 func222 a 9 [(0,[107]),(1,[10]),(5,[29]),(9,[29])] [(0,[(105,.told vd)]),(1,[(17,.told (.arr 4 (.int .u64))),(26,.told L6),(31,.told I6),(33,.told I6)])] [] [] (itc 10270254 func254 h0 1 [1,2] (itc 12810253 func253 h0 2 [1] (itc 13460253 func253 h0 3 [1] (itc 13480255 func255 zxh 4 [] (itc 40000710257 func257 zxt 5 [] (itc 14730253 func253 h0 6 [1] (itc 14750253 func253 h0 7 [1] (itc 7050253 func253 h0 8 [1] (itc 8390257 func257 zu2 9 [] itn (by kernel_rfl)) (by kernel_rfl)) (by kernel_rfl)) (by kernel_rfl)) (by kernel_rfl)) (by kernel_rfl)) (by kernel_rfl)) (by kernel_rfl)) (by kernel_rfl)) z6v rn gn (tc (zgd a) (tc (ztl a) tn)) (by kernel_rfl) λt=>by kernel_rfl
def zfn(d:Nat)(c:(List jf)):Option W7:=ja (Q4 d c) λa=>ifB (!a.isNone) (ja (a) λb=>some b.2.2.1.1.2.1) (some [])
theorem zv3(a:Nat):jv 176 ⟨[(.sl jl)],L6,λt=>zfn a t⟩:=mk1 func176 a 0 [] [] [] [] itn h0 rn gn (tc (za4 a) tn) (by kernel_rfl) λt=>by kernel_rfl
def zfx(d:Nat)(c:(List jf)):Option W6:=ja (Q4 d c) λa=>ifB (!a.isNone) (ja (a) λb=>some b.1) (some [])
theorem zv8(a:Nat):jv 177 ⟨[(.sl jl)],(.sl (.arr 4 (.int .u64))),λt=>zfx a t⟩:=mk1 func177 a 0 [] [] [] [] itn h0 rn gn (tc (za4 a) tn) (by kernel_rfl) λt=>by kernel_rfl
def Y7(b:Nat)(a:Int):Option Bool:=some (decide (¬a=a))
theorem zhp(a:Nat):jv 259 ⟨[I6],.bool,λt=>Y7 a t⟩:=mk1 func259 a 0 [] [] [] [] itn h0 rn gn tn (by kernel_rfl) λt=>by kernel_rfl
def vw(t:Nat)(A:W7)(B:Int):Option (Int×Bool×Unit):=ja (some (A.length:Int)) λa=>jn (σ:=W7×Int×Int×Int×Int) (λ(b,c,d,e,f)g=>ifB (decide (e<f)) (J (σ:=W7×Int×Int×Int×Int) (λ(h,i,j,k,l)=>g (h,i,j,k,l)) λm=>ja (zre .u64 (wr .u64 (w64 (e+f))) 1) λn=>ja (some (wr .i64 n)) λo=>ja (atL b o) λp=>ja (Zz t p c) λq=>ifB q (ja (some (w64 (o+1))) λr=>m (b,c,d,r,f)) (m (b,c,d,e,o))) (J (σ:=Int×Bool) (λ(s,u)=>some (s,u,())) λv=>ja (some (decide (e<d))) λw=>ifB w (ja (atL b e) λx=>ja (some (decide (x=c))) λy=>ifB y (v (e,true)) (ja (atL b e) λz=>ja (Y7 t z) λC=>ifB C (ja (Y7 t c) λD=>v (e,D)) (v (e,false)))) (v (e,false)))) t (A,B,a,0,a)
def zan:=lk (α:=HK) [(60,me [vl 0,vi 1,vi 6,vi 7,vi 8] [] 0),(62,me [vi 4,vb 5] [] 0),(241,me [vl 0,vi 1,vi 6,vi 7,vi 8] [] 0)]
theorem Zp(a:Nat):jv 223 ⟨[L6,I6],(.tup (.cons I6 (.cons .bool .nil))),λt=>vw a (t.1) (t.2)⟩:=mk1 func223 a 0 [(0,[11,21,29,34,41])] [] [] [] itn zan rn gn (tc (zmi a) (tc (zhp a) tn)) (by kernel_rfl) λt=>by kernel_rfl
def zhi(d:Nat)(b:W7)(c:Int):Option Bool:=ja (vw d b c) λa=>some a.2.1
theorem zyy(a:Nat):jv 178 ⟨[L6,I6],.bool,λt=>zhi a (t.1) (t.2)⟩:=mk1 func178 a 0 [] [] [] [] itn h0 rn gn (tc (Zp a) tn) (by kernel_rfl) λt=>by kernel_rfl
def zce(l:Nat)(k:(List jf))(j:Int):Option W7:=ja (Q4 l k) λa=>J (σ:=Int×(Option zx4)×Bool) (λ(b,c,d)=>ifB d (ja (c) λf=>ja (atL f.2.1 b) λg=>some g) (some [])) λe=>ja (some (!a.isNone)) λh=>ifB h (ifB (decide (0<=j)) (ja (a) λi=>e (j,a,decide (j<i.2.2.1.2.1))) (e (j,a,false))) (e (j,a,false))
def zz4:=lk (α:=HK) [(26,me [vi 1,(5,.v (.ref zv7)),vb 22] [] 0)]
theorem zo2(a:Nat):jv 180 ⟨[(.sl jl),I6],L6,λt=>zce a (t.1) (t.2)⟩:=mk1 func180 a 0 [(0,[9])] [] [] [] itn zz4 rn gn (tc (za4 a) tn) (by kernel_rfl) λt=>by kernel_rfl
def Vo(o:Nat)(m:W7)(n:Int):Option W7:=ja (some (m.length:Int)) λa=>ja (mkO 8 a) λb=>jn (σ:=W7×Int×Int×Int×W7) (λ(c,d,e,f,g)h=>ifB (decide (f<e)) (ja (atL c f) λi=>ja (jw g.length f) λj=>ja (yz g j (w64 (i+d))) λk=>ja (some (w64 (f+1))) λl=>h (c,d,e,l,k)) (some g)) o (m,n,(m.length:Int),0,(List.replicate b (0:Int)))
def zzs:=lk (α:=HK) [(58,me [vl 0,vi 1,vo 5 0,vi 11,vi 12] [.row 3 I6] 1)]
theorem zqu(a:Nat):FFOk 179 ⟨[L6,I6],3,I6,λt=>Vo a (t.1) (t.2)⟩:=mk2 func179 a 0 [(0,[8,24])] [] [] [] itn zzs rn gn tn (by kernel_rfl) λt=>by kernel_rfl
theorem zp3(a:Nat):jv 179 ⟨[L6,I6],L6,λt=>Vo a (t.1) (t.2)⟩:=(zqu a).pure
def zdr(d:Nat)(c:(List jf)):Option W7:=ja (Q4 d c) λa=>ifB (!a.isNone) (ja (a) λb=>some b.2.2.1.1.1) (some [])
theorem zs9(a:Nat):jv 181 ⟨[(.sl jl)],L6,λt=>zdr a t⟩:=mk1 func181 a 0 [] [] [] [] itn h0 rn gn (tc (za4 a) tn) (by kernel_rfl) λt=>by kernel_rfl
def zcr(t:Nat)(B:(List qe)):Option jk:=jn (σ:=(List qe)×Int×Int×W6×W7×W8×W4×W7×W6×W7×W8×W4×W7) (λ(a,b,c,d,e,f,g,h,i,j,k,l,m)n=>ifB (decide (c<b)) (ja (atL a c) λo=>ja (some (i.length:Int)) λp=>ja (zfn t o.2.1) λq=>ja (zfx t o.2.1) λr=>jn (σ:=(List qe)×Int×(List jf)×Int×W7×Int×Int×W6×Int×Int×W6×W7×W8×W4×W7×W6×W7×W8×W4×W7) (λ(s,u,v,w,x,y,z,C,D,A,E,F,G,H,I,b8,K,c0,L,M)N=>ifB (decide (A<D)) (ja (atL C A) λO=>ja (apO 32 b8 [O]) λP=>ja (apO 8 K [u]) λQ=>ja (zhi t x A) λR=>ja (apO 1 c0 [R]) λS=>ja (zce t v A) λT=>ja (Vo t T w) λU=>ja (apO 24 L [U]) λV=>ja (some (w64 (A+1))) λW=>N (s,u,v,w,x,y,z,C,D,W,E,F,G,H,I,P,Q,S,V,M)) (ja (zdr t v) λX=>ja (Vo t X w) λY=>ja (apO 8 M Y) λZ=>ja (some (w64 (z+1))) λJ=>n (s,y,J,E,F,G,H,I,b8,K,c0,L,Z))) t (a,c,o.2.1,p,q,b,c,r,(r.length:Int),0,d,e,f,g,h,i,j,k,l,m)) (some (i,j,k,l,m,()))) t (B,(B.length:Int),0,[],[],[],[],[],[],[],[],[],[])
def z54:=lk (α:=HK) [(58,me [(0,.v (.sl ve)),vp 2 0,vp 3 1,vi 11,vi 12] [.box 84 [.own 2,.own 3,.own 4,.own 5,.own 6],.box 84 [.own 7,.own 8,.own 9,.own 10,.own 11],.row 125 (.arr 4 (.int .u64)),.row 3 I6,.row 4 .bool,.row 31 L6,.row 3 I6,.row 125 (.arr 4 (.int .u64)),.row 3 I6,.row 4 .bool,.row 31 L6,.row 3 I6] 12),(119610,me [(0,.v (.sl ve)),vp 2 0,vp 3 1,vi 4,(5,.v (.sl jl)),vi 6,vl 7,vi 11,vi 12,(26,.v (.sl (.arr 4 (.int .u64)))),vi 27,vi 28] [.box 84 [.own 2,.own 3,.own 4,.own 5,.own 6],.box 84 [.own 7,.own 8,.own 9,.own 10,.own 11],.row 125 (.arr 4 (.int .u64)),.row 3 I6,.row 4 .bool,.row 31 L6,.row 3 I6,.row 125 (.arr 4 (.int .u64)),.row 3 I6,.row 4 .bool,.row 31 L6,.row 3 I6] 12)]
theorem zxr(a:Nat):jv 127 ⟨[(.sl ve)],ju,λt=>zcr a t⟩:=mk1 func127 a 0 [(0,[22,63,72])] [(0,[(36,.told (.arr 4 (.int .u64))),(42,.told I6),(50,.told .bool),(60,.told L6)])] [] [] itn z54 rn gn (tc (zv3 a) (tc (zv8 a) (tc (zyy a) (tc (zp3 a) (tc (zo2 a) (tc (zs9 a) tn)))))) (by kernel_rfl) λt=>by kernel_rfl
def zdu(i:Nat)(h:W7):Option Bool:=jn (σ:=W7×Int×Int) (λ(a,b,c)d=>ifB (decide (c<b)) (ja (atL a c) λe=>ja (atL a (w64 (c+1))) λf=>ifB (decide (f<=e)) (some false) (ja (some (w64 (c+1))) λg=>d (a,b,g))) (some true)) i (h,w64 ((h.length:Int)-1),0)
def z3c:=lk (α:=HK) [(26,me [vl 0,vi 6,vi 7] [] 0)]
theorem zsv(a:Nat):jv 252 ⟨[L6],.bool,λt=>zdu a t⟩:=mk1 func252 a 0 [(0,[20])] [] [] [] itn z3c rn gn tn (by kernel_rfl) λt=>by kernel_rfl
def zaj(u:Nat)(v:Int)(t:W4):Option Bool:=jn (σ:=Int×W4×Int×Int) (λ(a,b,c,d)e=>ifB (decide (d<c)) (ja (atL b d) λf=>J (σ:=Int×W4×Int×Int×Bool) (λ(g,h,i,j,k)=>ifB k (some false) (ja (some (w64 (j+1))) λm=>e (g,h,i,m))) λl=>ja (zdu u f) λn=>ja (some (!n)) λo=>ifB o (l (a,b,c,d,true)) (ja (some (decide (0<(f.length:Int)))) λp=>ifB p (ja (atL f 0) λq=>ja (some (decide (q<0))) λr=>ifB r (l (a,b,c,d,true)) (ja (atL f (w64 ((f.length:Int)-1))) λs=>l (a,b,c,d,decide (a<=s)))) (l (a,b,c,d,false)))) (some true)) u (v,t,(t.length:Int),0)
def z3j:=lk (α:=HK) [(26,me [vi 0,(7,.v M6),vi 8,vi 9] [] 0),(3378,me [vi 0,(7,.v M6),vi 8,vi 9,vb 36] [] 0)]
theorem zts(a:Nat):jv 219 ⟨[I6,M6],.bool,λt=>zaj a (t.1) (t.2)⟩:=mk1 func219 a 0 [(0,[15,19,24,37])] [] [] [] itn z3j rn gn (tc (zsv a) tn) (by kernel_rfl) λt=>by kernel_rfl
def Q9(t:Nat)(s:jk):Option Bool:=ja (some (s.1.length:Int)) λa=>J (σ:=Int×Bool×jk) (λ(b,c,d)=>ifB c (some false) (jn (σ:=Int×W7×Int×Int×jk) (λ(f,g,h,i,j)k=>ifB (decide (i<h)) (ja (atL g i) λl=>ifB (decide (l<0)) (some false) (ja (some (w64 (i+1))) λm=>k (f,g,h,m,j))) (J (λ(n:Bool)=>some n) λo=>ja (zaj t f [j.2.2.2.2.1]) λp=>ifB p (ja (zaj t f j.2.2.2.1) λq=>o q) (o false))) t (b,d.2.1,(d.2.1.length:Int),0,d))) λe=>ja (some (decide (¬(s.2.1.length:Int)=a))) λr=>ifB r (e (a,true,s)) (ifB (decide (¬(s.2.2.1.length:Int)=a)) (e (a,true,s)) (e (a,decide (¬(s.2.2.2.1.length:Int)=a),s)))
def z40:=lk (α:=HK) [(28,me [vp 1 0,vi 3,vb 27] [.box 84 [.v ju]] 1),(62,me [vb 2] [] 0),(122,me [vp 1 0,vi 3,vl 29,vi 30,vi 31] [.box 84 [.v ju]] 1)]
theorem Zy(a:Nat):jv 168 ⟨[ju],.bool,λt=>Q9 a t⟩:=mk1 func168 a 0 [(0,[8,13,37])] [(0,[(41,.told L6)])] [] [] itn z40 rn gn (tc (zts a) tn) (by kernel_rfl) λt=>by kernel_rfl
def zbz(h:Nat)(g:Wb)(f:Int):Option Bool:=ja (zsd .u8 f 64) λa=>ja (jw 4 a) λb=>ja (atL g.l b) λc=>ja (zp6 .u8 f 64) λd=>ja (z3u .u64 1 d) λe=>some (decide (¬(zy9 .u64 c e)=0))
theorem zyw(a:Nat):jv 233 ⟨[(.arr 4 (.int .u64)),U8],.bool,λt=>zbz a (t.1) (t.2)⟩:=mk1 func233 a 0 [] [] [] [] itn h0 rn gn tn (by kernel_rfl) λt=>by kernel_rfl
def Q7(t:Nat)(z:Wa)(A:Wb):Option Wa:=jn (σ:=Int×Wa×Wb×Wa×(List (vn×Int×Unit))) (λ(a,b,c,d,e)f=>ifB (decide (a<256)) (ja (jw 256 a) λg=>ja (atL b.l g) λh=>ja (zbz t c (wr .u8 a)) λi=>J (σ:=Int×Int×Wa×Wb×Wa×(List (vn×Int×Unit))×vn) (λ(j,k,l,m,n,o,p)=>ja (some (z7 Qm o p)) λr=>ja (jw 256 j) λs=>ja (ztv l s (gD 0 r)) λu=>ja (some (w64 (k+1))) λv=>f (v,u,m,n,o)) λq=>ja (some (z7 Qm e (h,i,()))) λw=>ifB (!w.isSome) (ja (some (e.length:Int)) λx=>ja (some (Z3 Qm e (h,i,()) (wr .u8 x))) λy=>q (a,a,b,c,d,y,(h,i,()))) (q (a,a,b,c,d,e,(h,i,())))) (some b)) t (0,z,A,⟨List.replicate 256 0,wch⟩,[])
def z3q:=lk (α:=HK) [(58,me [vp 2 0,vp 3 1,vp 4 2,vo 5 3,vi 11] [.box 29 [.v (.arr 256 U8)],.box 125 [.v (.arr 4 (.int .u64))],.box 29 [.v (.arr 256 U8)],.obj (.mp Q6 U8)] 4),(7475,me [vp 2 0,vp 3 1,vp 4 2,vo 5 3,vi 6,vp 7 4,vi 11] [.box 29 [.v (.arr 256 U8)],.box 125 [.v (.arr 4 (.int .u64))],.box 29 [.v (.arr 256 U8)],.obj (.mp Q6 U8),.box 278 [.v Q6]] 5)]
theorem zic(a:Nat):jv 192 ⟨[(.arr 256 U8),(.arr 4 (.int .u64))],(.arr 256 U8),λt=>Q7 a (t.1) (t.2)⟩:=mk1 func192 a 0 [(0,[40])] [] [] [] itn z3q rn gn (tc (zyw a) tn) (by kernel_rfl) λt=>by kernel_rfl
def Va(i:Nat)(h:Wa):Option Int:=jn (σ:=Int×Wa×Int) (λ(a,b,c)d=>ifB (decide (c<256)) (ja (atL b.l c) λe=>ja (some (max a (w64 ((wr .i64 e)+1)))) λf=>ja (some (w64 (c+1))) λg=>d (f,b,g)) (some a)) i (0,h,0)
def z5d:=lk (α:=HK) [(58,me [vi 3,(6,.v (.arr 256 U8)),vi 7] [] 0)]
theorem zih(a:Nat):jv 134 ⟨[(.arr 256 U8)],I6,λt=>Va a t⟩:=mk1 func134 a 0 [(0,[14,15])] [] [] [] itn z5d rn gn tn (by kernel_rfl) λt=>by kernel_rfl
def zj4(k:Nat)(l:W6):Option (Wa×Int×Unit):=jn (σ:=W6×Int×Int×Wa×Wa) (λ(a,b,c,d,e)f=>ifB (decide (c<b)) (ja (atL a c) λg=>ja (Q7 k e g) λh=>ja (some (w64 (c+1))) λi=>f (a,b,i,d,h)) (ja (Va k e) λj=>some (e,j,()))) k (l,(l.length:Int),0,⟨List.replicate 256 0,wch⟩,⟨List.replicate 256 0,wch⟩)
def jek:=lk (α:=HK) [(58,me [vp 2 0,vp 4 1,(7,.v (.sl (.arr 4 (.int .u64)))),vi 8,vi 9] [.box 29 [.v (.arr 256 U8)],.box 29 [.v (.arr 256 U8)]] 2)]
theorem z2t(a:Nat):jv 169 ⟨[(.sl (.arr 4 (.int .u64)))],(.tup (.cons (.arr 256 U8) (.cons I6 .nil))),λt=>zj4 a t⟩:=mk1 func169 a 0 [(0,[16])] [] [] [] itn jek rn gn (tc (zih a) (tc (zic a) tn)) (by kernel_rfl) λt=>by kernel_rfl
def zbq(t:Nat)(s:W7):Option W9:=jn (σ:=W7×Int×Int×W7) (λ(a,b,c,d)e=>ifB (decide (c<b)) (ja (atL a c) λf=>jn (σ:=Int×Int×W7×Int×Int×W7) (λ(g,h,i,j,k,l)m=>ifB (decide (0<=h)) (ja (zre .u64 (wr .u64 g) h) λn=>ja (apO 1 l [wr .u8 n]) λo=>ja (some (w64 (h-8))) λp=>m (g,p,i,j,k,o)) (ja (some (w64 (k+1))) λq=>e (i,j,q,l))) t (f,56,a,b,c,d)) (ja (b2s d) λr=>some r)) t (s,(s.length:Int),0,[])
def z9v:=lk (α:=HK) [(58,me [vo 3 0,vl 7,vi 8,vi 9] [.row 5 U8] 1),(14950,me [vo 3 0,vi 5,vi 6,vl 7,vi 8,vi 9] [.row 5 U8] 1)]
theorem z0d(a:Nat):jv 171 ⟨[L6],.str,λt=>zbq a t⟩:=mk1 func171 a 0 [(0,[16,25])] [(0,[(23,.told U8)])] [] [] itn z9v rn gn tn (by kernel_rfl) λt=>by kernel_rfl
def Qg(q:Nat)(o:Wa)(p:Int):Option W7:=jn (σ:=Int×Int×Wa×W7) (λ(a,b,c,d)e=>ifB (decide (b<256)) (J (σ:=Int×Int×Wa×W7) (λ(f,g,h,i)=>ja (some (w64 (g+1))) λk=>e (f,k,h,i)) λj=>ja (jw 256 b) λl=>ja (atL c.l l) λm=>ifB (decide ((wr .i64 m)=a)) (ja (apO 1 d [wr .u8 b]) λn=>j (a,b,c,n)) (j (a,b,c,d))) (some d)) q (p,0,o,[])
def z3s:=lk (α:=HK) [(58,me [vi 1,vp 2 0,vo 5 1,vi 7] [.box 29 [.v (.arr 256 U8)],.row 5 U8] 2),(934,me [vi 1,vp 2 0,vo 5 1,vi 7] [.box 29 [.v (.arr 256 U8)],.row 5 U8] 2)]
theorem zty(a:Nat):FFOk 172 ⟨[(.arr 256 U8),I6],5,U8,λt=>Qg a (t.1) (t.2)⟩:=mk2 func172 a 0 [(0,[21])] [(0,[(19,.told U8)])] [] [] itn z3s rn gn tn (by kernel_rfl) λt=>by kernel_rfl
theorem zt9(a:Nat):jv 172 ⟨[(.arr 256 U8),I6],(.sl U8),λt=>Qg a (t.1) (t.2)⟩:=(zty a).pure
def zf7(z:Nat)(x:jk)(t:W7)(y:Int):Option W7:=jn (σ:=Int×W7×Int×Int×jk×W7) (λ(a,b,c,d,e,f)g=>ifB (decide (d<c)) (J (σ:=Int×W7×Int×Int×jk×W7) (λ(h,i,j,k,l,m)=>ja (some (w64 (k+1))) λo=>g (h,i,j,o,l,m)) λn=>ja (atL b d) λp=>ja (zsd .u8 a 64) λq=>ja (atL e.1 p) λr=>ja (atL r.l q) λs=>ja (zp6 .u8 a 64) λu=>ja (zre .u64 s u) λv=>ifB (decide (¬(zy9 .u64 v 1)=0)) (ja (apO 8 f [p]) λw=>n (a,b,c,d,e,w)) (n (a,b,c,d,e,f))) (some f)) z (y,t,(t.length:Int),0,x,[])
def zz1:=lk (α:=HK) [(58,me [(2,.v U8),vp 3 0,vo 7 1,vl 10,vi 11,vi 12] [.box 84 [.v ju],.row 3 I6] 2),(934,me [(2,.v U8),vp 3 0,vo 7 1,vl 10,vi 11,vi 12] [.box 84 [.v ju],.row 3 I6] 2)]
theorem zg4(a:Nat):FFOk 220 ⟨[ju,L6,U8],3,I6,λt=>zf7 a (t.1) (t.2.1) (t.2.2)⟩:=mk2 func220 a 0 [(0,[33])] [(0,[(31,.told I6)])] [] [] itn zz1 rn gn tn (by kernel_rfl) λt=>by kernel_rfl
abbrev zcn:=zf7
def zap(d:Nat)(c:jk)(e:Int):Option W7:=ja (Q9 d c) λa=>ifB (!a) (some []) (ja (zcn d c c.2.2.2.2.1 e) λb=>some b)
theorem ztx(a:Nat):FFOk 173 ⟨[ju,U8],3,I6,λt=>zap a (t.1) (t.2)⟩:=mk2 func173 a 0 [] [] [] [196] itn h0 rn (gc (zg4 a) gn) (tc (Zy a) tn) (by kernel_rfl) λt=>by kernel_rfl
theorem zui(a:Nat):jv 173 ⟨[ju,U8],L6,λt=>zap a (t.1) (t.2)⟩:=(ztx a).pure
def zpx(t:Nat)(B:jk)(A:W7)(C:Int):Option W7:=jn (σ:=Int×W7×W7×Int×Int×jk) (λ(a,b,c,d,e,f)g=>ifB (decide (e<d)) (J (σ:=Int×W7×W7×Int×Int×jk) (λ(h,i,j,k,l,m)=>ja (some (w64 (l+1))) λo=>g (h,i,j,k,o,m)) λn=>ja (atL c e) λp=>J (σ:=Int×W7×Int×W7×Int×Int×Bool×jk) (λ(q,r,s,u,v,w,x,y)=>ifB x (ja (atL y.2.2.2.1 s) λD=>ja (Jn t r D) λE=>n (q,E,u,v,w,y)) (n (q,r,u,v,w,y))) λz=>ja (some (decide (0<=p))) λF=>ifB F (z (a,b,p,c,d,e,decide (p<(f.2.2.2.1.length:Int)),f)) (z (a,b,p,c,d,e,false,f))) (ja (zcn t f b a) λG=>some G)) t (C,[],A,(A.length:Int),0,B)
def jfn:=lk (α:=HK) [(58,me [(2,.v U8),vp 3 0,vl 7,vl 10,vi 11,vi 12] [.box 84 [.v ju]] 1),(934,me [(2,.v U8),vp 3 0,vl 7,vl 10,vi 11,vi 12] [.box 84 [.v ju]] 1),(7474,me [(2,.v U8),vp 3 0,vl 7,vi 9,vl 10,vi 11,vi 12,vb 24] [.box 84 [.v ju]] 1)]
theorem z4r(a:Nat):FFOk 221 ⟨[ju,L6,U8],3,I6,λt=>zpx a (t.1) (t.2.1) (t.2.2)⟩:=mk2 func221 a 0 [(0,[17,32])] [] [] [515] itn jfn rn (gc (zg4 a) gn) (tc (zh8 a) tn) (by kernel_rfl) λt=>by kernel_rfl
abbrev zri:=zpx
def zcw(d:Nat)(c:jk)(e:W7)(f:Int):Option W7:=ja (Q9 d c) λa=>ifB (!a) (some []) (ja (zri d c e f) λb=>some b)
theorem zx6(a:Nat):FFOk 174 ⟨[ju,L6,U8],3,I6,λt=>zcw a (t.1) (t.2.1) (t.2.2)⟩:=mk2 func174 a 0 [] [] [] [195] itn h0 rn (gc (z4r a) gn) (tc (Zy a) tn) (by kernel_rfl) λt=>by kernel_rfl
theorem zvs(a:Nat):jv 174 ⟨[ju,L6,U8],L6,λt=>zcw a (t.1) (t.2.1) (t.2.2)⟩:=(zx6 a).pure
def zdv(D:Nat)(t:jk)(A:W7):Option Int:=ja (Q9 D t) λa=>ifB (!a) (some (-1)) (jn (σ:=Int×W7×Int×Int×jk) (λ(b,c,d,e,f)g=>ifB (decide (e<d)) (J (σ:=Int×W7×Int×Int×jk) (λ(h,i,j,k,l)=>ja (some (w64 (k+1))) λn=>g (h,i,j,n,l)) λm=>ja (atL c e) λo=>J (σ:=Int×Int×W7×Int×Int×Bool×jk) (λ(p,q,r,s,u,v,w)=>ifB v (m (p,r,s,u,w)) (J (σ:=Int×Int×W7×Int×Int×jk) (λ(y,z,E,F,G,B)=>ja (atL B.2.1 z) λH=>ja (some (min y H)) λI=>m (I,E,F,G,B)) λC=>ifB (decide (p<0)) (ja (atL w.2.1 q) λK=>C (K,q,r,s,u,w)) (C (p,q,r,s,u,w)))) λx=>ja (some (decide (o<0))) λb8=>ifB b8 (x (b,o,c,d,e,true,f)) (ifB (decide ((f.2.1.length:Int)<=o)) (x (b,o,c,d,e,true,f)) (ja (atL f.2.2.1 o) λL=>x (b,o,c,d,e,!L,f)))) (some b)) D ((-1),A,(A.length:Int),0,t))
def z4s:=lk (α:=HK) [(122,me [vp 2 0,vi 5,vl 12,vi 13,vi 14] [.box 84 [.v ju]] 1),(1958,me [vp 2 0,vi 5,vl 12,vi 13,vi 14] [.box 84 [.v ju]] 1),(15667,me [vp 2 0,vi 5,vi 7,vl 12,vi 13,vi 14] [.box 84 [.v ju]] 1),(31332,me [vp 2 0,vi 5,vi 7,vl 12,vi 13,vi 14,vb 34] [.box 84 [.v ju]] 1)]
theorem zug(a:Nat):jv 175 ⟨[ju,L6],I6,λt=>zdv a (t.1) (t.2)⟩:=mk1 func175 a 0 [(0,[19,48,49])] [] [] [] itn z4s rn gn (tc (Zy a) tn) (by kernel_rfl) λt=>by kernel_rfl
def Z4(B:Nat)(Q:jk)(P:Int):Option (jg×Int×Int×Unit):=ja (Q9 B Q) λa=>ifB (!a) (some ((⟨List.replicate 256 0,wch⟩,0,[],[],()),0,3,())) (J (σ:=Int×Bool×jk×Wa×Int×W4×W7) (λ(b,c,d,e,f,g,h)=>ifB c (some ((⟨List.replicate 256 0,wch⟩,0,[],[],()),0,2,())) (ja (zj4 B d.1) λj=>jn (σ:=Int×Int×jk×Wa×Int×Wa×Int×W4×W7×W4×W7×W4×(List (W9×Int×Unit))) (λ(k,l,m,n,o,p,q,r,s,u,v,w,x)y=>ifB (decide (l<(w.length:Int))) (ja (mkO 8 q) λz=>jn (σ:=Int×Int×Int×Int×jk×Wa×Int×Wa×Int×W7×W4×W7×W4×W7×W4×(List (W9×Int×Unit))) (λ(H,E,I,A,F,K,L,G,b8,C,c0,M,N,O,t,D)c6=>ifB (decide (A<I)) (ja (Qg B G A) λc7=>ja (atL c7 0) λT=>J (σ:=Int×Int×Int×Int×jk×Wa×Int×Wa×Int×W7×W4×W7×W4×W7×W4×(List (W9×Int×Unit))) (λ(U,d0,d1,d2,d3,d4,d5,d6,d7,d8,d9,e0,e1,e2,V,e4)=>ifB (decide (U<(V.length:Int))) (some ((⟨List.replicate 256 0,wch⟩,0,[],[],()),0,16,())) (ja (some (w64 (d2+1))) λe6=>c6 (U,d0,d1,e6,d3,d4,d5,d6,d7,d8,d9,e0,e1,e2,V,e4))) λW=>ifB (decide (E=0)) (J (σ:=Int×Int×Int×Int×jk×Wa×Int×Wa×Int×W7×W4×W7×W4×W7×W4×(List (W9×Int×Unit))) (λ(e7,e8,e9,f0,f1,f2,f3,f4,f5,f6,f7,f8,f9,g0,g1,g2)=>W (e7,e8,e9,f0,f1,f2,f3,f4,f5,f6,f7,f8,f9,g0,g1,g2)) λX=>ja (zap B F T) λR=>ifB (decide ((R.length:Int)=0)) (ja (jw C.length A) λg5=>ja (yz C g5 (-1)) λg6=>X (H,E,I,A,F,K,L,G,b8,g6,c0,M,N,O,t,D)) (ja (zbq B R) λY=>ja (some (z7 zll D Y)) λZ=>J (σ:=Int×(List (W9×Int×Unit))×W4) (λ(g9,h0,h1)=>ja (jw C.length A) λh3=>ja (yz C h3 g9) λh4=>X (H,E,I,A,F,K,L,G,b8,h4,c0,M,N,O,h1,h0)) λh2=>ifB (!Z.isSome) (ja (some (t.length:Int)) λh5=>ja (some (Z3 zll D Y h5)) λh6=>ja (apO 24 t [R]) λh7=>h2 (h5,h6,h7)) (h2 (gD 0 Z,D,t)))) (J (σ:=Int×Int×Int×Int×jk×Wa×Int×Wa×Int×W7×W4×W7×W4×W7×W4×(List (W9×Int×Unit))) (λ(h8,h9,i0,i1,i2,i3,i4,i5,i6,i7,i8,i9,j0,j1,j2,j3)=>W (h8,h9,i0,i1,i2,i3,i4,i5,i6,i7,i8,i9,j0,j1,j2,j3)) λj4=>ja (jw t.length E) λj5=>ja (atL t j5) λj6=>ja (zcw B F j6 T) λS=>ifB (decide ((S.length:Int)=0)) (ja (jw C.length A) λj8=>ja (yz C j8 (-1)) λj9=>j4 (H,E,I,A,F,K,L,G,b8,j9,c0,M,N,O,t,D)) (ja (zbq B S) λk0=>ja (some (z7 zll D k0)) λk1=>J (σ:=Int×(List (W9×Int×Unit))×W4) (λ(k2,k3,k4)=>ja (jw C.length A) λk6=>ja (yz C k6 k2) λk7=>j4 (H,E,I,A,F,K,L,G,b8,k7,c0,M,N,O,k4,k3)) λk5=>ifB (!k1.isSome) (ja (some (t.length:Int)) λk8=>ja (some (Z3 zll D k0 k8)) λk9=>ja (apO 24 t [S]) λl0=>k5 (k8,k9,l0)) (k5 (gD 0 k1,D,t))))) (ja (apO 24 N [C]) λl1=>ja (jw t.length E) λl2=>ja (atL t l2) λl3=>ja (zdv B F l3) λl4=>ja (apO 8 O [l4]) λl5=>ja (some (w64 (E+1))) λl6=>y (H,l6,F,K,L,G,b8,c0,M,l1,l5,t,D))) B (k,l,((List.replicate z (0:Int)).length:Int),0,m,n,o,p,q,(List.replicate z (0:Int)),r,s,u,v,w,x)) (some ((p,q,u,v,()),(w.length:Int),0,()))) B (b,0,d,e,f,j.1,j.2.1,g,h,[],[],[[]],[]))) λi=>ja (some (decide (P<1))) λl7=>ifB l7 (i (P,true,Q,⟨List.replicate 256 0,wch⟩,0,[],[])) (i (P,decide (4096<P),Q,⟨List.replicate 256 0,wch⟩,0,[],[])))
def z6y:=lk (α:=HK) [(102,me [vi 1,vp 2 0,vp 4 1,vb 20] [.box 84 [.v ju],.box 33 [.v (.arr 256 U8),.v I6,.own 2,.own 3],.row 31 L6,.row 3 I6] 4),(1018,me [vi 1,vp 2 0,vp 4 1,vp 7 2,vp 8 3,(10,.fn 170 [] [.pt 4 0,.pt 3 0]),vi 11] [.box 84 [.v ju],.box 33 [.v (.arr 256 U8),.v I6,.own 5,.own 6],.box 33 [.v (.arr 256 U8),.v I6,.own 7,.own 8],.box 30 [.own 9],.box 219 [.own 10],.row 31 L6,.row 3 I6,.row 31 L6,.row 3 I6,.row 31 L6,.obj (.mp .str I6)] 11),(260682,me [vi 1,vp 2 0,vp 4 1,vp 7 2,vp 8 3,(10,.fn 170 [] [.pt 4 0,.pt 3 0]),vi 11,vo 12 5,vi 49,vi 50] [.box 84 [.v ju],.box 33 [.v (.arr 256 U8),.v I6,.own 6,.own 7],.box 33 [.v (.arr 256 U8),.v I6,.own 8,.own 9],.box 30 [.own 10],.box 219 [.own 11],.row 3 I6,.row 31 L6,.row 3 I6,.row 31 L6,.row 3 I6,.row 31 L6,.obj (.mp .str I6)] 12),(33367347,me [vi 1,vp 2 0,vp 4 1,vp 7 2,vp 8 3,(10,.fn 170 [] [.pt 4 0,.pt 3 0]),vi 11,vo 12 5,vi 49,vi 50] [.box 84 [.v ju],.box 33 [.v (.arr 256 U8),.v I6,.own 6,.own 7],.box 33 [.v (.arr 256 U8),.v I6,.own 8,.own 9],.box 30 [.own 10],.box 219 [.own 11],.row 3 I6,.row 31 L6,.row 3 I6,.row 31 L6,.row 3 I6,.row 31 L6,.obj (.mp .str I6)] 12),(266938778,me [vi 1,vp 2 0,vp 4 1,vp 7 2,vp 8 3,(10,.fn 170 [] [.pt 4 0,.pt 3 0]),vi 11,vo 12 5,vi 49,vi 50] [.box 84 [.v ju],.box 33 [.v (.arr 256 U8),.v I6,.own 6,.own 7],.box 33 [.v (.arr 256 U8),.v I6,.own 8,.own 9],.box 30 [.own 10],.box 219 [.own 11],.row 3 I6,.row 31 L6,.row 3 I6,.row 31 L6,.row 3 I6,.row 31 L6,.obj (.mp .str I6)] 12),(266938779,me [vi 1,vp 2 0,vp 4 1,vp 7 2,vp 8 3,(10,.fn 170 [] [.pt 4 0,.pt 3 0]),vi 11,vo 12 5,vi 49,vi 50] [.box 84 [.v ju],.box 33 [.v (.arr 256 U8),.v I6,.own 6,.own 7],.box 33 [.v (.arr 256 U8),.v I6,.own 8,.own 9],.box 30 [.own 10],.box 219 [.own 11],.row 3 I6,.row 31 L6,.row 3 I6,.row 31 L6,.row 3 I6,.row 31 L6,.obj (.mp .str I6)] 12)]
def zxc:=lk (α:=HK) [(31,me [vi 6] [.box 219 [.own 1],.obj (.mp .str I6),.box 30 [.own 3],.row 31 L6] 4)]
def zwf:=lk (α:=HK) [(31,me [vi 6] [.box 219 [.own 1],.obj (.mp .str I6),.box 30 [.own 3],.row 31 L6] 4)]
theorem zvb(a:Nat):jv 126 ⟨[ju,I6],(.tup (.cons jo (.cons I6 (.cons I6 .nil)))),λt=>Z4 a (t.1) (t.2)⟩:=mk1 func126 a 9 [(0,[22,44,86]),(1,[22]),(2,[22])] [(0,[(36,.own L6),(90,.ownx),(101,.told I6)]),(1,[(28,.told L6)]),(2,[(28,.told L6)])] [(1476,[(90,M6)])] [] (itc 11580170 func170 zxc 1 [3] (itc 12260170 func170 zwf 2 [3] itn (by kernel_rfl)) (by kernel_rfl)) z6y rn gn (tc (Zy a) (tc (z2t a) (tc (z0d a) (tc (zt9 a) (tc (zui a) (tc (zvs a) (tc (zug a) tn))))))) (by kernel_rfl) λt=>by kernel_rfl
def Yl(c:Nat)(b:Wa):Option Bool:=ja (Q7 c b (⟨List.replicate 4 0,wch⟩)) λa=>some (a.l == b.l)
theorem zs0(a:Nat):jv 133 ⟨[(.arr 256 U8)],.bool,λt=>Yl a t⟩:=mk1 func133 a 0 [] [] [] [] itn h0 rn gn (tc (zic a) tn) (by kernel_rfl) λt=>by kernel_rfl
def ze(B:Nat)(t:jg):Option Bool:=ja (some (t.2.2.1.length:Int)) λa=>J (σ:=Int×Bool×jg) (λ(b,c,d)=>ifB c (some false) (J (λ(f:Bool)=>some f) λg=>jn (σ:=Int×Bool×W4×Int×Int×jg) (λ(h,i,j,k,l,m)n=>ifB (decide (l<k)) (ja (atL j l) λo=>J (σ:=Int×Bool×W7×W4×Int×Int×Bool×jg) (λ(p,q,r,s,u,v,w,x)=>ifB w (g false) (jn (σ:=Int×Bool×W4×Int×Int×W7×Int×Int×jg) (λ(z,C,D,E,F,G,H,A,I)b8=>ifB (decide (A<H)) (ja (atL G A) λK=>J (σ:=Int×Bool×W4×Int×Int×W7×Int×Int×Bool×jg) (λ(c0,M,N,O,P,Q,R,S,T,U)=>ifB T (g false) (ja (some (w64 (S+1))) λV=>b8 (c0,M,N,O,P,Q,R,V,U))) λL=>ja (some (decide (K<(-1)))) λW=>ifB W (L (z,C,D,E,F,G,H,A,true,I)) (L (z,C,D,E,F,G,H,A,decide (z<=K),I))) (ja (some (w64 (F+1))) λX=>n (z,C,D,E,X,I))) B (p,q,s,u,v,r,(r.length:Int),0,x))) λy=>ja (some (decide (¬(o.length:Int)=m.2.1))) λY=>ifB Y (y (h,i,o,j,k,l,true,m)) (ja (atL m.2.2.2.1 l) λZ=>y (h,i,o,j,k,l,decide (Z<(-1)),m))) (g i)) B (b,true,d.2.2.1,(d.2.2.1.length:Int),0,d))) λe=>ja (some (decide (a=0))) λd6=>ifB d6 (e (a,true,t)) (ifB (decide (¬(t.2.2.2.1.length:Int)=a)) (e (a,true,t)) (ja (Yl B t.1) λd7=>ifB (!d7) (e (a,true,t)) (ja (Va B t.1) λd8=>e (a,decide (¬d8=t.2.1),t))))
def z74:=lk (α:=HK) [(52,me [vp 1 0,vi 3,vb 34] [.box 33 [.v jo]] 1),(445,me [vb 4] [] 0),(890,me [vp 1 0,vi 3,vb 4,(36,.v M6),vi 37,vi 38] [.box 33 [.v jo]] 1),(227940,me [vp 1 0,vi 3,vb 4,vl 6,(36,.v M6),vi 37,vi 38,vb 55] [.box 33 [.v jo]] 1),(455886,me [vp 1 0,vi 3,vb 4,(36,.v M6),vi 37,vi 38,vl 56,vi 57,vi 58] [.box 33 [.v jo]] 1),(58353458,me [vp 1 0,vi 3,vb 4,(36,.v M6),vi 37,vi 38,vl 56,vi 57,vi 58,vb 68] [.box 33 [.v jo]] 1)]
theorem zeh(a:Nat):jv 71 ⟨[jo],.bool,λt=>ze a t⟩:=mk1 func71 a 0 [(0,[11,13,47,63,69,70])] [] [] [] itn z74 rn gn (tc (zs0 a) (tc (zih a) tn)) (by kernel_rfl) λt=>by kernel_rfl
def zec(q:Nat)(o:jg)(p:Int):Option W7:=ja (atL o.2.2.1 p) λa=>jn (σ:=W7×Int×Int×W7) (λ(b,c,d,e)f=>ifB (decide (d<c)) (J (σ:=W7×Int×Int×W7) (λ(g,h,i,j)=>ja (some (w64 (i+1))) λl=>f (g,h,l,j)) λk=>ja (atL b d) λm=>ifB (decide (0<=m)) (ja (apO 8 e [m]) λn=>k (b,c,d,n)) (k (b,c,d,e))) (some e)) q (a,(a.length:Int),0,[])
def jd9:=lk (α:=HK) [(58,me [vo 5 0,vl 12,vi 13,vi 14] [.row 3 I6] 1),(934,me [vo 5 0,vl 12,vi 13,vi 14] [.row 3 I6] 1)]
theorem z24(a:Nat):FFOk 137 ⟨[jo,I6],3,I6,λt=>zec a (t.1) (t.2)⟩:=mk2 func137 a 0 [(0,[24])] [(0,[(22,.told I6)])] [] [] itn jd9 rn gn tn (by kernel_rfl) λt=>by kernel_rfl
theorem zn7(a:Nat):jv 137 ⟨[jo,I6],L6,λt=>zec a (t.1) (t.2)⟩:=(z24 a).pure
def Qv(A:Nat)(B:jg):Option W8:=ja (ze A B) λa=>ifB (!a) (some []) (ja (mkO 1 (B.2.2.1.length:Int)) λb=>ja (small7 ([0]:List Int) ([0]:List Int)) λc=>jn (σ:=W7×Int×Int×jg×W8×W7) (λ(d,e,f,g,h,i)j=>ifB (decide (f<e)) (ja (atL d f) λk=>ja (jw h.length k) λl=>ja (yz h l true) λm=>ja (some (w64 (f+1))) λn=>j (d,e,n,g,m,i)) (jn (σ:=jg×W8×W7) (λ(o,p,q)r=>ifB (decide (0<(q.length:Int))) (ja (jw q.length 0) λs=>ja (atL q s) λu=>ja (zxs q 1) λv=>ja (zec A o u) λw=>jn (σ:=W7×Int×Int×jg×W8×W7) (λ(x,y,z,C,t,D)F=>ifB (decide (z<y)) (J (σ:=W7×Int×Int×jg×W8×W7) (λ(G,H,I,K,b8,L)=>ja (some (w64 (I+1))) λM=>F (G,H,M,K,b8,L)) λc0=>ja (atL x z) λE=>ja (jw t.length E) λN=>ja (atL t N) λO=>ifB (!O) (ja (jw t.length E) λP=>ja (yz t P true) λQ=>ja (apO 8 D [E]) λR=>c0 (x,y,z,C,Q,R)) (c0 (x,y,z,C,t,D))) (r (C,t,D))) A (w,(w.length:Int),0,o,p,(q.drop v))) (some p)) A (g,h,i))) A ([0],([0].length:Int),0,B,(List.replicate b false),c))
def zot:=lk (α:=HK) [(122,me [(2,.fn 136 [] [.pt 0 0]),vo 7 1,vo 8 2,vl 18,vi 19,vi 20] [.box 33 [.v jo],.row 4 .bool,.row 3 I6] 3),(124,me [(2,.fn 136 [] [.pt 0 0]),vo 7 1,vo 8 2] [.box 33 [.v jo],.row 4 .bool,.que 3 I6] 3),(15918,me [(2,.fn 136 [] [.pt 0 0]),vo 7 1,vo 8 2,vl 38,vi 39,vi 40] [.box 33 [.v jo],.row 4 .bool,.que 3 I6] 3),(254694,me [(2,.fn 136 [] [.pt 0 0]),vo 7 1,vo 8 2,vl 38,vi 39,vi 40] [.box 33 [.v jo],.row 4 .bool,.que 3 I6] 3)]
theorem zna(a:Nat):FFOk 72 ⟨[jo],4,.bool,λt=>Qv a t⟩:=mk2 func72 a 9 [(1,[27,56])] [(0,[(9,.told I6)]),(1,[(35,.que),(54,.told I6)])] [] [] (itc 1970135 func135 zot 1 [] (itc 10007060136 func136 h0 2 [] itn (by kernel_rfl)) (by kernel_rfl)) h0 rn gn (tc (zeh a) (tc (zn7 a) tn)) (by kernel_rfl) λt=>by kernel_rfl
theorem zfw(a:Nat):jv 72 ⟨[jo],LB,λt=>Qv a t⟩:=(zna a).pure
def zw(B:Nat)(t:jg):Option W7:=ja (Qv B t) λa=>jn (σ:=W8×Int×Int×jg×W7) (λ(b,c,d,e,f)g=>ifB (decide (d<c)) (J (σ:=W8×Int×Int×jg×W7) (λ(h,i,j,k,l)=>ja (some (w64 (j+1))) λn=>g (h,i,n,k,l)) λm=>ja (atL b d) λo=>J (σ:=Int×W8×Int×Int×Bool×jg×W7) (λ(p,q,r,s,u,v,w)=>ifB u (ja (atL v.2.2.2.1 p) λy=>ja (apO 8 w [y]) λz=>m (q,r,s,v,z)) (m (q,r,s,v,w))) λx=>ifB o (ja (atL e.2.2.2.1 d) λC=>x (d,b,c,d,decide (0<=C),e,f)) (x (d,b,c,d,false,e,f))) (ja (small7 f (za6 f)) λA=>ja (small7 A (Vi A)) λD=>some D)) B (a,(a.length:Int),0,t,[])
def zyt:=lk (α:=HK) [(58,me [vp 1 0,vo 3 1,(7,.v LB),vi 8,vi 9] [.box 33 [.v jo],.row 3 I6] 2),(934,me [vp 1 0,vo 3 1,(7,.v LB),vi 8,vi 9] [.box 33 [.v jo],.row 3 I6] 2),(7474,me [vp 1 0,vo 3 1,vi 4,(7,.v LB),vi 8,vi 9,vb 22] [.box 33 [.v jo],.row 3 I6] 2)]
theorem zp9(a:Nat):FFOk 128 ⟨[jo],3,I6,λt=>zw a t⟩:=mk2 func128 a 0 [(0,[31])] [(0,[(29,.told I6)])] [] [] itn zyt rn gn (tc (zfw a) tn) (by kernel_rfl) λt=>by kernel_rfl
theorem zq9(a:Nat):jv 128 ⟨[jo],L6,λt=>zw a t⟩:=(zp9 a).pure
def zg(j:Nat)(h:W7)(i:Int):Option Int:=jn (σ:=W7×Int×Int×Int) (λ(a,b,c,d)e=>ifB (decide (d<c)) (ja (atL a d) λf=>ifB (decide (b=f)) (some d) (ja (some (w64 (d+1))) λg=>e (a,b,c,g))) (some (-1))) j (h,i,(h.length:Int),0)
def zfb:=lk (α:=HK) [(26,me [vl 0,vi 1,vi 7,vi 8] [] 0)]
theorem zdd(a:Nat):jv 184 ⟨[L6,I6],I6,λt=>zg a (t.1) (t.2)⟩:=mk1 func184 a 0 [(0,[18])] [] [] [] itn zfb rn gn tn (by kernel_rfl) λt=>by kernel_rfl
def yk(d:Nat)(b:W7)(c:Int):Option Bool:=ja (zg d b c) λa=>some (decide (0<=a))
theorem zba(a:Nat):jv 130 ⟨[L6,I6],.bool,λt=>yk a (t.1) (t.2)⟩:=mk1 func130 a 0 [] [] [] [] itn h0 rn gn (tc (zdd a) tn) (by kernel_rfl) λt=>by kernel_rfl
def Jg(o:Nat)(p:(Option Qj)):Option jd:=ja (p) λa=>ja (zw o a.2.1) λb=>J (λ(c:jd)=>some c) λd=>ja (p) λe=>jn (σ:=Int×Int×Int×Int×W7×jd) (λ(f,g,h,i,j,k)l=>ifB (decide (i<h)) (ja (yk o j i) λm=>ifB (!m) (d (f,i,g,())) (ja (some (w64 (i+1))) λn=>l (f,g,h,n,j,k))) (d (0,0,0,()))) o (13,1,(e.1.1.length:Int),0,b,(0,0,0,()))
def zgm:=lk (α:=HK) [(14,me [vp 2 0] [.box 36 [.v jj]] 1)]
def ze5:=lk (α:=HK) [(26,me [vi 1,vi 2,(3,.fn 129 [] [.pt 0 0]),vp 8 1,vi 10,vi 11] [.box 31 [.v L6],.box 36 [.v jj]] 2)]
theorem zes(a:Nat):jv 67 ⟨[(.ref Qi)],jj,λt=>Jg a t⟩:=mk1 func67 a 9 [(1,[22])] [] [] [] (itc 1350055 func55 ze5 1 [] (itc 10002580129 func129 h0 2 [] itn (by kernel_rfl)) (by kernel_rfl)) zgm rn gn (tc (zq9 a) (tc (zba a) tn)) (by kernel_rfl) λt=>by kernel_rfl
def Qf:(Bool×(List (je×W7×Unit))×je×je×W8)->Option MS:=λ(c,a,d,b8,b)=>some ⟨3,1,0,1,jr,3,I6,a,0,b⟩
def Qc(z:Nat):Nat->(Bool×(List (je×W7×Unit))×je×je×W8)->Option (Bool×(List (je×W7×Unit))×je×je×W8):=λc0(c,a,f,b8,d)=>ja (zpz a c0) λy=>J (σ:=Bool×(List (je×W7×Unit))×je×je×W8) (λ(l,m,n,o,p)=>some (l,m,n,o,p)) λh=>ja (zx2 (d.set c0 true) a c0) λb=>J (σ:=Bool×Bool×(List (je×W7×Unit))×je×je×je×W8) (λ(q,r,i,j,s,t,k)=>ifB r (h (q,i,j,s,k)) (h (true,i,j,t,k))) λg=>ja (atL (a.map λe=>e.2.1) (c0:Int)) λu=>ja (some (decide ((u.length:Int)<2))) λv=>ifB v (g (c,true,a,f,b8,b.1,(d.set c0 true))) (ifB c (ja (some (decide (b8.1<b.1.1))) λw=>ifB w (g (c,true,a,f,b8,b.1,(d.set c0 true))) (ja (some (decide (b8.1=b.1.1))) λx=>ifB x (g (c,decide (b8.2.1<b.1.2.1),a,f,b8,b.1,(d.set c0 true))) (g (c,false,a,f,b8,b.1,(d.set c0 true))))) (g (c,false,a,f,b8,b.1,(d.set c0 true))))
def yw:(W4×W8×(List (je×W7×Unit)))->Option MS:=λ(c,a,b)=>some ⟨1,1,2,1,jr,3,I6,b,0,a⟩
def qi(s:Nat):Nat->(W4×W8×(List (je×W7×Unit)))->Option (W4×W8×(List (je×W7×Unit))):=λa(b,f,c)=>ja (zpz c a) λq=>ja (zx2 (f.set a true) c a) λg=>ja (jw b.length g.1.1) λd=>ja (atL b d) λr=>ja (ja (atL (c.map λe=>e.2.1) (a:Int)) λh=>jw h.length 0) λi=>ja (ja (atL (c.map λe=>e.2.1) (a:Int)) λj=>atL j i) λk=>ja (ja (atL b d) λl=>jw l.length g.1.2.1) λm=>ja (ja (atL b d) λn=>ja (yz n m k) λo=>some (b.set d.toNat o)) λp=>some (p,(f.set a true),c)
def zee(A:Nat)(S:((Bool×(List (je×W7×Unit))×je×je×W8)->Option (W4×Int×Unit))->(Bool×(List (je×W7×Unit))×je×je×W8)->Option (W4×Int×Unit))(T:((W4×W8×(List (je×W7×Unit)))->Option (W4×Int×Unit))->(W4×W8×(List (je×W7×Unit)))->Option (W4×Int×Unit))(t:jb):Option (W4×Int×Unit):=ja (y6 A t) λa=>ifB (!a) (some ([],3,())) (ja (Vc A t) λb=>jn (σ:=W4×(List jh)×Int×Int×jb×(List (je×W7×Unit))) (λ(c,d,e,f,g,h)i=>ifB (decide (f<e)) (ja (atL d f) λj=>ja (ym A g c j) λk=>jn (σ:=W4×Int×(List jh)×Int×Int×W7×Int×Int×jb×(List (je×W7×Unit))×jh) (λ(l,m,n,o,p,q,r,s,u,v,w)x=>ifB (decide (s<r)) (ja (atL q s) λy=>ja (z8o zex (w.1,y,()) v) λz=>ja (ja (atL (z.2.map λe=>e.2.1) (z.1:Int)) λU=>apO 8 U [m]) λV=>ja (z0a z.2 ((z.1:Int).toNat) (z.1:Int) V) λW=>ja (some (w64 (s+1))) λX=>x (l,m,n,o,p,q,r,X,u,W,w)) (ja (some (w64 (p+1))) λY=>i (l,n,o,Y,u,v))) A (c,f,d,e,f,k,(k.length:Int),0,g,h,j)) (S (λ(Z,J,e3,e4,e5)=>ifB Z (some ([],15,())) (ja (some (t.2.1.length:Int)) λe6=>ja (mkO 24 e6) λH=>jn (σ:=Int×Int×jb×(List (je×W7×Unit))×W4) (λ(I,C,K,E,F)f3=>ifB (decide (C<I)) (ja (some (w64 ((K.1.length:Int)+1))) λf4=>ja (mkO 8 f4) λf5=>ja (jw F.length C) λf6=>ja (yz F f6 (List.replicate f5 (0:Int))) λD=>ja (jw D.length C) λL=>ja (atL D L) λf9=>ja (atL D L) λg0=>jn (σ:=Int×Int×Int×Int×Int×jb×(List (je×W7×Unit))×W4) (λ(M,N,O,P,G,Q,R,B)g9=>ifB (decide (G<P)) (ja (jw B.length M) λh0=>ja (atL B h0) λh1=>ja (ja (atL B h0) λh2=>jw h2.length G) λh3=>ja (ja (atL B h0) λh4=>ja (yz h4 h3 (-1)) λh5=>some (B.set h0.toNat h5)) λh6=>ja (some (w64 (G+1))) λh7=>g9 (M,N,O,P,h7,Q,R,h6)) (ja (some (w64 (O+1))) λh8=>f3 (N,h8,Q,R,B))) A (C,I,C,(g0.length:Int),0,K,E,D)) (T (λ(j6,j7,j8)=>some (j6,0,())) (F,(List.replicate E.length false),E))) A (((List.replicate H ([]:W7)).length:Int),0,t,J,(List.replicate H ([]:W7))))) (false,h,(0,0,()),(0,0,()),(List.replicate h.length false)))) A (b,t.2.2.1,(t.2.2.1.length:Int),0,t,([]:List (je×List Int×Unit))))
def zx(a:Nat)(b:jb):Option (W4×Int×Unit):=zee a (znf Qf (Qc a)) (znf yw (qi a)) b
def ze6(a:Nat)(b:jb):Option (W4×Int×Unit):=zee a (mrC Qf (Qc a)) (mrC yw (qi a)) b
theorem zjn(a:Nat):zyh Qf (Qc a):=zcx a
def zdg(out:List W7)(r c v:Int):Option W4:=match out[r.toNat]? with
 |none=>none
 |some row=>match decide (0<=r/\0<=c/\c.toNat<row.length)with
  |true=>some (out.set r.toNat (row.set c.toNat v))
  |false=>none
theorem z08{out o:List (List Int)}{r c v:Int}(h:zdg out r c v=some o):∃row,out[r.toNat]?=some row/\0<=r/\0<=c/\c.toNat<row.length/\o=out.set r.toNat (row.set c.toNat v):=by
 unfold zdg at h;split at h<;>try (cases h;done)
 rename_i row b;split at h<;>cases h;rename_i a;have:=wcd a;exact⟨row,b,this.1,this.2.1,this.2.2,rfl⟩
theorem zoc{out:List (List Int)}{r c v:Int}{row:List Int}(h:out[r.toNat]?=some row)(a:0<=r)(b:0<=c)(d:c.toNat<row.length):zdg out r c v=some (out.set r.toNat (row.set c.toNat v)):=by
 unfold zdg;simp only[h,a,b,d,and_self,decide_true]
theorem z0v{out:List (List Int)}{r c v b a j:Int}(i:r≠b\/c≠a){o:List (List Int)}(h:ja (zdg out r c v) (λo=>zdg o b a j)=some o):ja (zdg out b a j) (λo=>zdg o r c v)=some o:=by
 obtain⟨y,t,u⟩:=yb h;obtain⟨row,f,g,k,l,rfl⟩:=z08 t;obtain⟨q,d,s,m,n,rfl⟩:=z08 u;have p:=(wcg.1 f).1;by_cases e:r.toNat=b.toNat
 ·have x:r=b:=by omega
  subst x;rw[wel p]at d;cases d;have w:c.toNat≠a.toNat:=by
   rcases i with h|h
   ·exact absurd rfl h
   ·omega
  rw[zoc f g m (by simpa using n)];simp only[ja];rw[zoc (row:=row.set a.toNat j) (by rw[wel p]) g k (by simpa using l)];rw[List.set_set,List.set_set,List.set_comm _ _ w]
 ·rw[wec e]at d;rw[zoc d s m n];simp only[ja];rw[zoc (row:=row) (by rw[wec (Ne.symm e)];exact f) g k l,List.set_comm _ _ e]
theorem je7(out:List (List Int))(r c v b a e:Int)(d:r≠b\/c≠a):ja (zdg out r c v) (λo=>zdg o b a e)=ja (zdg out b a e) (λo=>zdg o r c v):=by
 cases h:ja (zdg out r c v) (λo=>zdg o b a e)with
 |some o=>exact(z0v d h).symm
 |none=>
  cases g:ja (zdg out b a e) (λo=>zdg o r c v)with
  |none=>rfl
  |some o=>
   have f:b≠r\/a≠c:=by
    rcases d with h|h
    ·exact .inl (Ne.symm h)
    ·exact .inr (Ne.symm h)
   have:=z0v f g;rw[h]at this;cases this
theorem jkc(out:List (List Int))(r c v:Int):(ja (jw out.length r) λp=>ja (atL out p) λ_=>ja (ja (atL out p) λj=>jw j.length c) λq=>ja (atL out p) λf=>ja (yz f q v) λg=>some (out.set p.toNat g))=zdg out r c v:=by
 unfold zdg jw atL yz;by_cases a:0<=r
 ·by_cases b:r.toNat<out.length
  ·simp only[a,b,decide_true,ja,wcf];by_cases d:0<=c
   ·by_cases e:c.toNat<(out[r.toNat]).length<;>simp[d,e]
   ·simp[d]
  ·simp[a,b,ja]
 ·cases out[r.toNat]?<;>simp[a,ja]
theorem zh2(i j:Nat)(out:List (List Int))(mk:List Bool)(es:List (je×(List Int)×Unit)):qi i j (out,mk,es)=ja (zx2 (mk.set j true) es j) λe=>ja (atL e.2.1 0) λv=>ja (zdg out e.1.1 e.1.2.1 v) λo=>some (o,mk.set j true,es):=by
 by_cases g:(mk.set j true).length=es.length
 ·have b:=zau (es:=es) (j:=j) g;unfold qi;cases a:es[j]? with
  |none=>simp only[zpz,a,b,ja]
  |some e=>
   simp only[zpz,a,b,ja,z29 a];obtain⟨⟨r,c,_⟩,l,_⟩:=e;cases l with
   |nil=>
    simp only[jw,atL,wfb];by_cases d:0<=r
    ·by_cases f:r.toNat<out.length<;>simp[d,f]
    ·simp[d]
   |cons v l=>
    have h0:jw (v::l).length 0=some 0:=by simp[jw]
    have h:atL (v::l) 0=some v:=rfl;simp only[h0,h];rw[<- jkc out r c v];simp only[ja];cases d:jw out.length r with
    |none=>rfl
    |some p=>
     simp only;cases f:atL out p with
     |none=>rfl
     |some row=>
      simp only;cases k:jw row.length c with
      |none=>rfl
      |some q=>
       cases m:yz row q v<;>simp only
 ·have b:=zj7 (es:=es) (j:=j) g;unfold qi;cases a:es[j]? with
  |none=>simp only[zpz,a,b,ja]
  |some e=>simp only[zpz,a,b,ja]
theorem zhu(H:Nat):zyh yw (qi H) where
 keep:=λj t P m h E=>by
  obtain⟨out,mk,q⟩:=t;rw[zh2]at h;obtain⟨e,_,D⟩:=yb h;obtain⟨v,_,K⟩:=yb D;obtain⟨o,_,L⟩:=yb K;cases L;cases E;rfl
 swap:=λa b t m x y F E z A N=>by
  obtain⟨out,mk,q⟩:=t;cases E;simp only at z A;by_cases u:mk.length=q.length
  ·rw[zh2,zh2,zau (by simpa using u),zau (by simpa using u),z,A];obtain⟨⟨r,c,_⟩,l,_⟩:=x;obtain⟨⟨n,p,_⟩,G,_⟩:=y;have w:r≠n\/c≠p:=by
    by_cases h:r=n
    ·right;intro D;exact N (by rw[h,D])
    ·exact .inl h
   have f:∀(o:List (List Int))(i k:Nat)(e:je×(List Int)×Unit),q[k]?=some e->qi H k (o,mk.set i true,q)=ja (atL e.2.1 0) λv=>ja (zdg o e.1.1 e.1.2.1 v) λo=>some (o,(mk.set i true).set k true,q):=λo i k e M=>by
    rw[zh2,zau (by simpa using u),M];rfl
   cases g:atL l 0 with
   |none=>
    cases d:atL G 0 with
    |none=>simp[ja,g,d]
    |some B=>
     simp only[ja,g,d];cases s:zdg out n p B with
     |none=>rfl
     |some o=>simp only[f o b a _ z,g,ja]
   |some v=>
    cases d:atL G 0 with
    |none=>
     simp only[ja,g,d];cases s:zdg out r c v with
     |none=>rfl
     |some o=>simp only[f o a b _ A,d,ja]
    |some B=>
     have h:=je7 out r c v n p B w;simp only[ja,g,d]at h⊢;cases s:zdg out r c v with
     |none=>
      cases C:zdg out n p B with
      |none=>rfl
      |some o=>
       rw[s,C]at h;simp only[f o b a _ z,g,ja]at h⊢;rw[<- h]
     |some I=>
      cases C:zdg out n p B with
      |none=>
       rw[s,C]at h;simp only[f I a b _ A,d,ja]at h⊢;rw[h]
      |some O=>
       rw[s,C]at h;simp only[f O b a _ z,f I a b _ A,g,d,ja]at h⊢;rw[h,List.set_comm _ _ F]
  ·rw[zh2,zh2,zj7 (by simpa using u),zj7 (by simpa using u)];rfl
theorem zm1(a:Nat)(b:jb):ze6 a b=zx a b:=by
 unfold ze6 zx;simp only[z32 (zjn a),z32 (zhu a)]
def z0e:=lk (α:=HK) [(506,me [vp 1 0,vo 4 1,vo 7 2,vi 28,vi 29] [.box 26 [.v jc],.mrows jr 3 I6,.rows 31 3 I6] 3),(1018,.mr ⟨[(7,.own 0),(57,.own 1)],[(0,.rows 31 3 I6),(1,.iter 2),(2,.mrows jr 3 I6)],3⟩),(259278,me [vp 1 0,vo 4 1,vo 7 2,vi 8,vi 28,vi 29,vi 44,vi 45] [.box 26 [.v jc],.mrows jr 3 I6,.rows 31 3 I6] 3)]
def zq2:=lk (α:=HK) [(58,me [vp 1 0,vo 3 1,(4,.v M6),(14,.v (.sl js)),vi 15,vi 16] [.box 26 [.v jc],.mrows jr 3 I6] 2),(14950,me [vp 1 0,vo 3 1,(4,.v M6),vi 5,vp 6 2,(14,.v (.sl js)),vi 15,vi 16,vl 24,vi 25,vi 26] [.box 26 [.v jc],.mrows jr 3 I6,.box 68 [.v js]] 3)]
def zp2:=lk (α:=HK) [(58,.mr ⟨[(2,.pt 1 0),(4,.pt 2 0),(5,.v .bool),(10,.own 3)],[(0,.mrows jr 3 I6),(1,.box 138 [.v jr]),(2,.box 138 [.v jr]),(3,.iter 0)],4⟩),(467,me [vp 2 1,vp 4 2,vb 5,vo 10 3] [.mrows jr 3 I6,.box 138 [.v jr],.box 138 [.v jr],.iter 0] 4),(7476,me [vp 2 1,vp 4 2,vb 5,vp 6 3,vo 10 4,vb 42] [.mrows jr 3 I6,.box 138 [.v jr],.box 138 [.v jr],.box 138 [.v jr],.iter 0] 5)]
theorem zq0(a:Nat):jv 28 ⟨[jc],(.tup (.cons M6 (.cons I6 .nil))),λt=>zx a t⟩:=by
 have h:(λt=>zx a t:DL [jc]->Option (Ty.D (.tup (.cons M6 (.cons I6 .nil)))))=λt=>ze6 a t:=funext λt=>(zm1 a t).symm;rw[h];exact mk1 func28 a 9 [(0,[25,37,54,55]),(1,[42,43]),(2,[18,26,32])] [(0,[(26,.rows 3 I6)]),(1,[(10,(.mrows jr 3 I6)),(38,.told I6)])] [] [] (itc 1930069 func69 zq2 1 [] (itc 2570070 func70 zp2 2 [] itn (by kernel_rfl)) (by kernel_rfl)) z0e rn gn (tc (zf a) (tc (zig a) (tc (zet a) tn))) (by kernel_rfl) λt=>by kernel_rfl
def za1(A:Nat)(C:jg):Option W8:=ja (ze A C) λa=>ifB (!a) (some []) (ja (some (C.2.2.1.length:Int)) λb=>ja (mkO 24 b) λc=>jn (σ:=W7×Int×Int×jg×W7×W4) (λ(d,e,f,g,h,i)j=>ifB (decide (f<e)) (J (σ:=W7×Int×Int×jg×W7×W4) (λ(k,l,m,n,o,p)=>ja (some (w64 (m+1))) λr=>j (k,l,r,n,o,p)) λq=>ja (atL d f) λs=>ja (zec A g f) λu=>jn (σ:=Int×Int×W7×Int×Int×W7×Int×Int×jg×W7×W4) (λ(v,w,x,y,z,S,T,G,H,I,t)b6=>ifB (decide (G<T)) (ja (atL S G) λU=>ja (jw t.length U) λb8=>ja (atL t b8) λb9=>ja (ja (atL t b8) λc0=>apO 8 c0 [v]) λc1=>ja (jw t.length U) λc2=>ja (z1r (some b8.toNat) t c2 c1) λc3=>ja (some (w64 (G+1))) λc4=>b6 (v,w,x,y,z,S,T,c4,H,I,c3)) (ifB (decide (0<=w)) (ja (apO 8 I [v]) λc5=>q (x,y,z,H,c5,t)) (q (x,y,z,H,I,t)))) A (f,s,d,e,f,u,(u.length:Int),0,g,h,i)) (ja (mkO 1 (g.2.2.1.length:Int)) λc6=>ja (small7 h h) λc7=>jn (σ:=(Option W4)×Int×Int×W7×W8×W7) (λ(V,W,K,E,L,X)d4=>ifB (decide (K<W)) (ja (jw E.length K) λd5=>ja (atL E d5) λd6=>ja (jw L.length d6) λd7=>ja (yz L d7 true) λd8=>ja (some (w64 (K+1))) λd9=>d4 (V,W,d9,E,d8,X)) (jn (σ:=(Option W4)×W7×W8×W7) (λ(Y,e1,Z,D)e4=>ifB (decide (0<(D.length:Int))) (ja (jw D.length 0) λe5=>ja (atL D e5) λe6=>ja (zxs D 1) λe7=>ja (Y) λe8=>ja (atL e8 e6) λe9=>jn (σ:=(Option W4)×W7×Int×Int×W7×W8×W7) (λ(M,N,O,F,P,B,Q)f7=>ifB (decide (F<O)) (J (σ:=(Option W4)×W7×Int×Int×W7×W8×W7) (λ(f8,f9,g0,g1,g2,g3,g4)=>ja (some (w64 (g1+1))) λg6=>f7 (f8,f9,g0,g6,g2,g3,g4)) λg5=>ja (atL N F) λR=>ja (jw B.length R) λg8=>ja (atL B g8) λg9=>ifB (!g9) (ja (jw B.length R) λh0=>ja (yz B h0 true) λh1=>ja (apO 8 Q [R]) λh2=>g5 (M,N,O,F,P,h1,h2)) (g5 (M,N,O,F,P,B,Q))) (e4 (M,P,B,Q))) A (Y,e9,(e9.length:Int),0,e1,Z,(D.drop e7))) (some Z)) A (V,E,L,X))) A ((some i),(h.length:Int),0,h,(List.replicate c6 false),c7))) A (C.2.2.2.1,(C.2.2.2.1.length:Int),0,C,[],(List.replicate c ([]:W7))))
def z3h:=lk (α:=HK) [(250,me [vp 1 0,vp 3 1,vo 4 2,vl 17,vi 18,vi 19] [.box 33 [.v jo],.box 30 [.own 3],.row 3 I6,.rows 31 3 I6] 4),(4006,me [vp 1 0,vp 3 1,vo 4 2,vl 17,vi 18,vi 19] [.box 33 [.v jo],.box 30 [.own 3],.row 3 I6,.rows 31 3 I6] 4),(128202,me [vp 1 0,vp 3 1,vo 4 2,vi 5,vi 6,vl 17,vi 18,vi 19,vl 26,vi 27,vi 28] [.box 33 [.v jo],.box 30 [.own 3],.row 3 I6,.rows 31 3 I6] 4)]
def zsq:=lk (α:=HK) [(122,me [(2,.fn 138 [] [.v (.ref M6)]),vo 7 1,vo 8 2,vo 18 0,vi 19,vi 20] [.row 3 I6,.row 4 .bool,.row 3 I6] 3),(124,me [(2,.fn 138 [] [.v (.ref M6)]),vo 7 1,vo 8 2] [.row 3 I6,.row 4 .bool,.que 3 I6] 3),(15918,me [(2,.fn 138 [] [.v (.ref M6)]),vo 7 1,vo 8 2,vl 38,vi 39,vi 40] [.row 3 I6,.row 4 .bool,.que 3 I6] 3),(254694,me [(2,.fn 138 [] [.v (.ref M6)]),vo 7 1,vo 8 2,vl 38,vi 39,vi 40] [.row 3 I6,.row 4 .bool,.que 3 I6] 3)]
theorem zs1(a:Nat):FFOk 73 ⟨[jo],4,.bool,λt=>za1 a t⟩:=mk2 func73 a 9 [(0,[14,42,49]),(1,[27,56])] [(0,[(15,.rows 3 I6),(39,.told I6),(47,.told I6)]),(1,[(35,.que),(54,.told I6)])] [(1028,[(3,(.ref M6))])] [] (itc 10290135 func135 zsq 1 [] (itc 10007060138 func138 h0 2 [] itn (by kernel_rfl)) (by kernel_rfl)) z3h rn gn (tc (zeh a) (tc (zn7 a) tn)) (by kernel_rfl) λt=>by kernel_rfl
theorem zti(a:Nat):jv 73 ⟨[jo],LB,λt=>za1 a t⟩:=(zs1 a).pure
def Yj(A:Nat)(B:jg):Option jg:=ja (ze A B) λa=>ifB (!a) (some (⟨List.replicate 256 0,wch⟩,0,[],[],())) (ja (Qv A B) λb=>ja (za1 A B) λc=>ja (some (B.2.2.1.length:Int)) λd=>ja (mkO 8 d) λe=>jn (σ:=W8×W8×Int×Int×jg×Wa×Int×W7×W7×W4×W7) (λ(f,g,h,i,j,k,l,m,n,o,p)q=>ifB (decide (i<h)) (J (σ:=W8×W8×Int×Int×jg×Wa×Int×W7×W7×W4×W7) (λ(r,s,u,v,w,x,y,z,b0,b1,b2)=>ja (some (w64 (v+1))) λb4=>q (r,s,u,b4,w,x,y,z,b0,b1,b2)) λZ=>ja (jw m.length i) λb5=>ja (yz m b5 (-1)) λF=>J (σ:=W8×W8×Int×Int×Int×Bool×jg×Wa×Int×W7×W7×W4×W7) (λ(b7,b8,b9,c0,c1,c2,c3,c4,c5,G,H,c8,c9)=>ifB c2 (ja (jw G.length b9) λd1=>ja (yz G d1 (H.length:Int)) λd2=>ja (apO 8 H [b9]) λd3=>Z (b7,b8,c0,c1,c3,c4,c5,d2,d3,c8,c9)) (Z (b7,b8,c0,c1,c3,c4,c5,G,H,c8,c9))) λI=>ja (some (decide (i=0))) λd4=>ifB d4 (I (f,g,i,h,i,true,j,k,l,F,n,o,p)) (ja (atL f i) λd5=>ifB d5 (ja (atL g i) λd6=>I (f,g,i,h,i,d6,j,k,l,F,n,o,p)) (I (f,g,i,h,i,false,j,k,l,F,n,o,p)))) (jn (σ:=Int×Int×jg×Wa×Int×W7×Wa×Int×W7×W4×W7×W4×W7) (λ(d7,K,L,e0,e1,e2,e3,e4,M,e6,e7,e8,e9)f0=>ifB (decide (K<d7)) (ja (jw M.length K) λf1=>ja (atL M f1) λf2=>ja (mkO 8 L.2.1) λf3=>ja (atL L.2.2.1 f2) λf4=>ja (jjj (List.replicate f3 (0:Int)) f4) λf5=>jn (σ:=Int×Int×Int×Int×Int×jg×Wa×Int×W7×Wa×Int×W7×W7×W4×W7×W4×W7) (λ(N,O,P,Q,C,E,R,S,D,T,U,t,V,W,h0,X,Y)h3=>ifB (decide (C<Q)) (J (σ:=Int×Int×Int×Int×Int×jg×Wa×Int×W7×Wa×Int×W7×W7×W4×W7×W4×W7) (λ(h4,h5,h6,h7,h8,h9,i0,i1,i2,i3,i4,i5,i6,i7,i8,i9,j0)=>ja (some (w64 (h8+1))) λj2=>h3 (h4,h5,h6,h7,j2,h9,i0,i1,i2,i3,i4,i5,i6,i7,i8,i9,j0)) λj1=>ja (jw t.length C) λj3=>ja (atL t j3) λj4=>ifB (decide (0<=j4)) (ja (jw D.length j4) λj5=>ja (atL D j5) λj6=>ja (jw t.length C) λj7=>ja (yz t j7 j6) λj8=>j1 (N,O,P,Q,C,E,R,S,D,T,U,j8,V,W,h0,X,Y)) (j1 (N,O,P,Q,C,E,R,S,D,T,U,t,V,W,h0,X,Y))) (ja (apO 24 X [t]) λj9=>ja (atL E.2.2.2.1 N) λk0=>ja (apO 8 Y [k0]) λk1=>ja (some (w64 (P+1))) λk2=>f0 (O,k2,E,R,S,D,T,U,V,W,h0,j9,k1))) A (f2,d7,K,(f5.2.length:Int),0,L,e0,e1,e2,e3,e4,f5.2,M,e6,e7,e8,e9)) (some (e3,e4,e8,e9,()))) A ((n.length:Int),0,j,k,l,m,j.1,j.2.1,n,o,p,[],[]))) A (b,c,((List.replicate e (0:Int)).length:Int),0,B,⟨List.replicate 256 0,wch⟩,0,(List.replicate e (0:Int)),[],[],[]))
def z6l:=lk (α:=HK) [(506,me [vp 1 0,vp 2 1,(3,.v LB),(4,.v LB),vo 5 2,vo 6 3,vi 27,vi 28] [.box 33 [.v jo],.box 33 [.v (.arr 256 U8),.v I6,.own 4,.own 5],.row 3 I6,.row 3 I6,.row 31 L6,.row 3 I6] 6),(2042,me [vp 1 0,vp 2 1,vo 5 2,vp 8 3,vo 63 4,vi 64,vi 65] [.box 33 [.v jo],.box 33 [.v (.arr 256 U8),.v I6,.own 5,.own 6],.row 3 I6,.box 33 [.v (.arr 256 U8),.v I6,.own 7,.own 8],.row 3 I6,.row 31 L6,.row 3 I6,.row 31 L6,.row 3 I6] 9),(8102,me [vp 1 0,vp 2 1,(3,.v LB),(4,.v LB),vo 5 2,vo 6 3,vi 27,vi 28] [.box 33 [.v jo],.box 33 [.v (.arr 256 U8),.v I6,.own 4,.own 5],.row 3 I6,.row 3 I6,.row 31 L6,.row 3 I6] 6),(129638,me [vp 1 0,vp 2 1,(3,.v LB),(4,.v LB),vo 5 2,vo 6 3,vi 7,vi 27,vi 28,vb 47] [.box 33 [.v jo],.box 33 [.v (.arr 256 U8),.v I6,.own 4,.own 5],.row 3 I6,.row 3 I6,.row 31 L6,.row 3 I6] 6),(4182842,me [vp 1 0,vp 2 1,vo 5 2,vp 8 3,vi 10,vo 11 4,vo 63 5,vi 64,vi 65,vo 79 4,vi 80,vi 81] [.box 33 [.v jo],.box 33 [.v (.arr 256 U8),.v I6,.own 6,.own 7],.row 3 I6,.box 33 [.v (.arr 256 U8),.v I6,.own 8,.own 9],.row 3 I6,.row 3 I6,.row 31 L6,.row 3 I6,.row 31 L6,.row 3 I6] 10),(66925478,me [vp 1 0,vp 2 1,vo 5 2,vp 8 3,vi 10,vo 11 4,vo 63 5,vi 64,vi 65,vo 79 4,vi 80,vi 81] [.box 33 [.v jo],.box 33 [.v (.arr 256 U8),.v I6,.own 6,.own 7],.row 3 I6,.box 33 [.v (.arr 256 U8),.v I6,.own 8,.own 9],.row 3 I6,.row 3 I6,.row 31 L6,.row 3 I6,.row 31 L6,.row 3 I6] 10)]
theorem zvd(a:Nat):jv 29 ⟨[jo],jo,λt=>Yj a t⟩:=mk1 func29 a 0 [(0,[24,35,57,95,112])] [(0,[(55,.told I6),(99,.ownx),(109,.told I6)])] [(1668,[(99,M6)])] [] itn z6l rn gn (tc (zeh a) (tc (zfw a) (tc (zti a) tn))) (by kernel_rfl) λt=>by kernel_rfl
def Je(A:Nat)(t:jb):Option (jg×W4×jd×Unit):=J (σ:=jb×Wa×jd×jb×jg×jd×W4×W7×W4) (λ(a,b,c,d,e,f,g,h,i)=>ifB (decide (¬f.1=0)) (some ((⟨List.replicate 256 0,wch⟩,0,[],[],()),[],f,())) (ja (zx A a) λk=>ja (Yj A e) λl=>some (l,k.1,f,()))) λj=>ja (Yp A (some (t,(⟨List.replicate 256 0,wch⟩,0,[],[],()),[],()))) λm=>ifB (decide (¬m.1=0)) (j (t,⟨List.replicate 256 0,wch⟩,(0,0,0,()),t,(⟨List.replicate 256 0,wch⟩,0,[],[],()),m,[],[],[])) (ja (Yq A (some (t,(⟨List.replicate 256 0,wch⟩,0,[],[],()),[],()))) λn=>ifB (decide (¬n.1=0)) (j (t,⟨List.replicate 256 0,wch⟩,(0,0,0,()),t,(⟨List.replicate 256 0,wch⟩,0,[],[],()),n,[],[],[])) (ja (Yn A (some (t,(⟨List.replicate 256 0,wch⟩,0,[],[],()),[],()))) λo=>ifB (decide (¬o.1=0)) (j (t,⟨List.replicate 256 0,wch⟩,(0,0,0,()),t,(⟨List.replicate 256 0,wch⟩,0,[],[],()),o,[],[],[])) (ja (Ym A (some (t,(⟨List.replicate 256 0,wch⟩,0,[],[],()),[],()))) λp=>ifB (decide (¬p.1=0)) (j (t,⟨List.replicate 256 0,wch⟩,(0,0,0,()),t,(⟨List.replicate 256 0,wch⟩,0,[],[],()),p,[],[],[])) (ja (Yr A (some (t,(⟨List.replicate 256 0,wch⟩,0,[],[],()),[],()))) λq=>ifB (decide (¬q.1=0)) (j (t,⟨List.replicate 256 0,wch⟩,(0,0,0,()),t,(⟨List.replicate 256 0,wch⟩,0,[],[],()),q,[],[],[])) (J (σ:=jb×Wa×jd×jb×jg×jd×W4×W7×W4) (λ(r,s,u,v,w,x,y,z,B)=>ifB (decide (¬x.1=0)) (j (r,s,u,v,w,x,y,z,B)) (ja (Jg A (some (v,w,B,()))) λC=>ifB (decide (¬C.1=0)) (j (r,s,u,v,w,C,y,z,B)) (j (r,s,u,v,w,C,y,z,B)))) λD=>ja (zcr A t.1) λF=>ja (Z4 A F t.2.2.2.2.1) λE=>ifB (decide (¬E.2.2.1=0)) (D (t,⟨List.replicate 256 0,wch⟩,(0,0,0,()),t,(⟨List.replicate 256 0,wch⟩,0,[],[],()),(16,0,0,()),[],[],[])) (D (t,⟨List.replicate 256 0,wch⟩,(0,0,0,()),t,E.1,(0,0,0,()),[],[],[])))))))
def zwl:=lk (α:=HK) [(221,me [vp 1 0,vp 2 1,vp 4 2,vp 5 3,vp 6 4] [.box 26 [.v jc],.box 33 [.v (.arr 256 U8),.ci .i64 (0),.own 5,.own 6],.box 36 [.v jj],.box 71 [.v jc,.v jo,.own 7],.box 36 [.v jj],.row 31 L6,.row 3 I6,.row 31 L6] 8),(442,.unroll 24),(1814450,me [vp 1 0,vp 2 1,vp 4 2,vp 5 3,vp 6 4,vo 12 5,(13,.ci .i64 (7)),(14,.ci .i64 (5))] [.box 26 [.v jc],.box 33 [.v (.arr 256 U8),.ci .i64 (0),.own 6,.own 7],.box 36 [.v jj],.box 71 [.v jc,.v jo,.own 8],.box 36 [.v jj],.rowx 76 1 [.agg [.fn 52 [] []],.agg [.fn 54 [] []],.agg [.fn 58 [] []],.agg [.fn 61 [] []],.agg [.fn 64 [] []],.agg [.fn 66 [] []],.agg [.fn 67 [] []]],.row 31 L6,.row 3 I6,.row 31 L6] 9)]
theorem zf2(a:Nat):jv 8 ⟨[jc],(.tup (.cons jo (.cons M6 (.cons jj .nil)))),λt=>Je a t⟩:=mk1 func8 a 9 [] [(1,[(8,.ownx)])] [] [] (itc 1920027 func27 h0 1 [] (itc 3870066 func66 h0 2 [] itn (by kernel_rfl)) (by kernel_rfl)) zwl rn gn (tc (zq0 a) (tc (zvd a) (tc (zkv a) (tc (zkq a) (tc (zko a) (tc (zk5 a) (tc (zk2 a) (tc (zes a) (tc (zvb a) (tc (zxr a) tn)))))))))) (by kernel_rfl) λt=>by kernel_rfl
def Jz(c:Nat)(b:jb):Option jd:=ja (Je c b) λa=>some a.2.2.1
theorem zei(a:Nat):jv 12 ⟨[jc],jj,λt=>Jz a t⟩:=mk1 func12 a 0 [] [] [] [] itn h0 rn gn (tc (zf2 a) tn) (by kernel_rfl) λt=>by kernel_rfl
def Zm(h:Nat):Option Bool:=ja (zdq h [97]) λa=>ja (zdq h [97]) λb=>J (λ(c:Bool)=>some c) λd=>ja (Jz h ([([97],a,0,())],[[115]],[(0,[(true,0,0,0,()),(false,0,0,0,())],())],0,9,1,1,1,())) λe=>ja (some (zzq [e.1 == (14,0,0,()).1,e.2.1 == (14,0,0,()).2.1,e.2.2.1 == (14,0,0,()).2.2.1])) λf=>ifB f (ja (Jz h ([([97],a,0,()),([98],b,0,())],[[115]],[(0,[(false,0,0,0,())],())],0,9,1,1,1,())) λg=>d (zzq [g.1 == (13,1,1,()).1,g.2.1 == (13,1,1,()).2.1,g.2.2.1 == (13,1,1,()).2.2.1])) (d false)
def zza:=lk (α:=HK) [(126,me [vb 0] [] 0)]
theorem zpu(a:Nat):jv 7 ⟨[],.bool,λt=>Zm a⟩:=mk1 func7 a 0 [(0,[30])] [(0,[(10,.told ve),(11,.told .str),(14,.told jt),(16,.told js),(20,.told ve),(21,.told .str),(23,.told jt),(25,.told js)])] [] [] itn zza rn gn (tc (zei a) (tc (zsa a) tn)) (by kernel_rfl) λt=>by kernel_rfl
def zcd(u:Nat)(t:jb):Option jd:=ifB (decide (64<(t.1.length:Int))) (some (4,0,0,())) (ifB (decide (64<(t.2.1.length:Int))) (some (4,1,0,())) (ifB (decide (256<(t.2.2.1.length:Int))) (some (4,2,0,())) (J (σ:=Bool×jb×jd) (λ(a,b,c)=>ifB a (some (2,0,0,())) (J (σ:=Bool×jb×jd) (λ(e,f,g)=>ifB e (some (2,1,0,())) (J (σ:=Bool×jb×jd) (λ(i,j,k)=>ifB i (some (2,2,0,())) (J (σ:=Bool×jd) (λ(m,n)=>ifB m (some (2,3,0,())) (some (0,0,0,()))) λo=>ja (some (decide (j.2.2.2.2.2.2.2.1<1))) λp=>ifB p (o (true,k)) (o (decide (1048576<j.2.2.2.2.2.2.2.1),k)))) λl=>ja (some (decide (f.2.2.2.2.2.2.1<1))) λq=>ifB q (l (true,f,g)) (l (decide (65536<f.2.2.2.2.2.2.1),f,g)))) λh=>ja (some (decide (b.2.2.2.2.2.1<0))) λr=>ifB r (h (true,b,c)) (h (decide (65536<b.2.2.2.2.2.1),b,c)))) λd=>ja (some (decide (t.2.2.2.2.1<1))) λs=>ifB s (d (true,t,(0,0,0,()))) (d (decide (4096<t.2.2.2.2.1),t,(0,0,0,()))))))
def zz0:=lk (α:=HK) [(124,me [vp 1 0,vp 2 1,vb 25] [.box 26 [.v jc],.box 36 [.v jj]] 2),(252,me [vp 1 0,vp 2 1,vb 34] [.box 26 [.v jc],.box 36 [.v jj]] 2),(508,me [vp 1 0,vp 2 1,vb 43] [.box 26 [.v jc],.box 36 [.v jj]] 2),(1020,me [vp 2 0,vb 52] [.box 36 [.v jj]] 1)]
theorem zo6(a:Nat):jv 139 ⟨[jc],jj,λt=>zcd a t⟩:=mk1 func139 a 0 [(0,[20,29,38,47])] [] [] [] itn zz0 rn gn tn (by kernel_rfl) λt=>by kernel_rfl
def Vu(o:Nat)(p:jb):Option (List W9):=jn (σ:=Int×jb×(List W9)) (λ(a,b,c)d=>ifB (decide (a<(b.1.length:Int))) (ja (atL b.1 a) λe=>ja (apO 16 c [e.1]) λf=>ja (some (w64 (a+1))) λg=>d (g,b,f)) (jn (σ:=Int×jb×(List W9)) (λ(h,i,j)k=>ifB (decide (h<(i.2.1.length:Int))) (ja (atL i.2.1 h) λl=>ja (apO 16 j [l]) λm=>ja (some (w64 (h+1))) λn=>k (n,i,m)) (some j)) o (0,b,c))) o (0,p,[])
def zzm:=lk (α:=HK) [(58,me [vp 1 0,vo 3 1,vi 4] [.box 26 [.v jc],.row 9 .str] 2),(122,me [vp 1 0,vo 3 1,vi 5] [.box 26 [.v jc],.row 9 .str] 2)]
theorem zrd(a:Nat):FFOk 142 ⟨[jc],9,.str,λt=>Vu a t⟩:=mk2 func142 a 0 [(0,[13,29])] [(0,[(6,.own .str),(21,.told .str),(36,.told .str)])] [] [] itn zzm rn gn tn (by kernel_rfl) λt=>by kernel_rfl
theorem zg7(a:Nat):jv 142 ⟨[jc],(.sl .str),λt=>Vu a t⟩:=(zrd a).pure
def zd1(E:Nat)(A:W9):Option Bool:=jn (σ:=W9×Int) (λ(a,b)c=>ifB (decide (b<(a.length:Int))) (ja (zmj a b) λd=>J (σ:=W9×Int×Int×Bool) (λ(e,f,g,h)=>J (σ:=W9×Int×Bool×Bool) (λ(j,k,l,m)=>J (σ:=W9×Int×Bool) (λ(o,p,q)=>ifB q (some false) (ja (some (w64 (p+1))) λs=>c (o,s))) λr=>ja (some (!l)) λu=>ifB u (ifB (!m) (r (j,k,true)) (ja (some (decide (k=0))) λv=>ifB v (r (j,k,m)) (r (j,k,false)))) (ja (some (decide (k=0))) λw=>ifB w (r (j,k,m)) (r (j,k,false)))) λn=>ja (some (decide (48<=g))) λx=>ifB x (n (e,f,h,decide (g<=57))) (n (e,f,h,false))) λi=>ja (some (decide (97<=d))) λy=>ifB y (ifB (decide (d<=122)) (i (a,b,d,true)) (ja (some (decide (65<=d))) λz=>ifB z (ifB (decide (d<=90)) (i (a,b,d,true)) (i (a,b,d,decide (d=95)))) (i (a,b,d,decide (d=95))))) (ja (some (decide (65<=d))) λB=>ifB B (ifB (decide (d<=90)) (i (a,b,d,true)) (i (a,b,d,decide (d=95)))) (i (a,b,d,decide (d=95))))) (J (λ(C:Bool)=>some C) λt=>ja (some (decide (1<=(a.length:Int)))) λD=>ifB D (t (decide ((a.length:Int)<=32))) (t false))) E (A,0)
def z5h:=lk (α:=HK) [(14,me [vb 2] [] 0),(26,me [(0,.v .str),vi 3] [] 0),(1682,me [(0,.v .str),vi 3,(4,.v U8),vb 5] [] 0),(3366,me [(0,.v .str),vi 3,vb 5,vb 6] [] 0),(6734,me [(0,.v .str),vi 3,vb 52] [] 0)]
theorem zuj(a:Nat):jv 193 ⟨[.str],.bool,λt=>zd1 a t⟩:=mk1 func193 a 0 [(0,[12,17,24,35,41,48,55])] [] [] [] itn z5h rn gn tn (by kernel_rfl) λt=>by kernel_rfl
def zdy(i:Nat)(g:(List W9))(h:W9):Option Int:=jn (σ:=(List W9)×W9×Int) (λ(a,b,c)d=>ifB (decide (c<(a.length:Int))) (ja (atL a c) λe=>ifB (e == b) (some c) (ja (some (w64 (c+1))) λf=>d (a,b,f))) (some (-1))) i (g,h,0)
def z47:=lk (α:=HK) [(26,me [(0,.v (.sl .str)),(1,.v .str),vi 5] [] 0)]
theorem zsf(a:Nat):jv 194 ⟨[(.sl .str),.str],I6,λt=>zdy a (t.1) (t.2)⟩:=mk1 func194 a 0 [(0,[11])] [] [] [] itn z47 rn gn tn (by kernel_rfl) λt=>by kernel_rfl
def za2(g:Nat)(e:(List W9))(f:Int):Option Int:=ja (atL e f) λa=>ja (zd1 g a) λb=>ifB (!b) (some 7) (ja (atL e f) λc=>ja (zdy g e c) λd=>ifB (decide (d<f)) (some 8) (some 0))
theorem zio(a:Nat):jv 141 ⟨[(.sl .str),I6],I6,λt=>za2 a (t.1) (t.2)⟩:=mk1 func141 a 0 [] [] [] [] itn h0 rn gn (tc (zuj a) (tc (zsf a) tn)) (by kernel_rfl) λt=>by kernel_rfl
def Qp(m:Nat)(l:Int):Option Int:=J (σ:=Int×Bool) (λ(a,b)=>ifB b (some 0) (J (σ:=Int×Bool) (λ(d,e)=>ifB e (some 2) (J (λ(g:Bool)=>ifB g (some 1) (some (-1))) λh=>ja (some (decide (d=5))) λi=>ifB i (h true) (ifB (decide (d=6)) (h true) (h (decide (d=7)))))) λf=>ja (some (decide (a=3))) λj=>ifB j (f (a,true)) (f (a,decide (a=4))))) λc=>ja (some (decide (l=1))) λk=>ifB k (c (l,true)) (c (l,decide (l=2)))
def z9z:=lk (α:=HK) [(12,me [vi 0,vb 8] [] 0),(28,me [vi 0,vb 14] [] 0),(60,me [vb 24] [] 0)]
theorem zf6(a:Nat):jv 200 ⟨[I6],I6,λt=>Qp a t⟩:=mk1 func200 a 0 [(0,[4,10,16])] [] [] [] itn z9z rn gn tn (by kernel_rfl) λt=>by kernel_rfl
def Jq(t:Nat)(s:(List jf)):Option Int:=ifB (decide (512<(s.length:Int))) (some 4) (jn (σ:=(List jf)×Int×Int) (λ(a,b,c)d=>ifB (decide (c<(a.length:Int))) (ja (atL a c) λe=>ja (Qp t e.1) λf=>J (σ:=(List jf)×Int×Int×Int×Bool) (λ(g,h,i,j,k)=>ifB k (some 1) (ifB (decide (h<j)) (some 3) (ja (some (w64 ((w64 (h-j))+1))) λm=>ja (some (w64 (i+1))) λn=>d (g,m,n)))) λl=>ja (some (decide (f<0))) λo=>ifB o (l (a,b,c,f,true)) (ja (atL a c) λp=>ja (some (decide (¬p.1=1))) λq=>ifB q (ja (atL a c) λr=>l (a,b,c,f,!(r.2.1.l == (⟨List.replicate 4 0,wch⟩:Arr 4 Int).l))) (l (a,b,c,f,false)))) (ifB (decide (¬b=1)) (some 3) (some 0))) t (s,0,0))
def zz7:=lk (α:=HK) [(122,me [(0,.v (.sl jl)),vi 3,vi 4] [] 0),(15652,me [(0,.v (.sl jl)),vi 3,vi 4,vi 5,vb 39] [] 0)]
theorem Q1(a:Nat):jv 150 ⟨[(.sl jl)],I6,λt=>Jq a t⟩:=mk1 func150 a 0 [(0,[14,22,29,46])] [] [] [] itn zz7 rn gn (tc (zf6 a) tn) (by kernel_rfl) λt=>by kernel_rfl
def zcc(k:Nat)(l:jb)(j:Int):Option jd:=ja (atL l.1 j) λa=>ja (Vu k l) λb=>ja (za2 k b j) λc=>ifB (decide (¬c=0)) (some (c,j,0,())) (ja (Jq k a.2.1) λd=>ifB (decide (¬d=0)) (some (9,j,d,())) (J (σ:=Int×Bool×jd) (λ(e,f,g)=>ifB f (some (1,e,0,())) (some (0,0,0,()))) λh=>ja (some (decide (a.2.2.1<0))) λi=>ifB i (h (j,true,(0,0,0,()))) (h (j,decide (3<a.2.2.1),(0,0,0,())))))
def zzl:=lk (α:=HK) [(124,me [vi 1,vp 4 0,vb 37] [.box 36 [.v jj]] 1)]
theorem zp4(a:Nat):jv 140 ⟨[jc,I6],jj,λt=>zcc a (t.1) (t.2)⟩:=mk1 func140 a 0 [(0,[32])] [] [] [] itn zzl rn gn (tc (zio a) (tc (zg7 a) (tc (Q1 a) tn))) (by kernel_rfl) λt=>by kernel_rfl
def zd0(t:Nat)(r:jb)(s:ji):Option Int:=J (σ:=Int×jb×ji) (λ(a,b,c)=>J (σ:=Bool×jb×ji) (λ(e,f,g)=>ifB e (some 11) (J (σ:=Bool×ji) (λ(i,j)=>ifB i (some 12) (J (λ(l:Bool)=>ifB l (some 2) (some 0)) λm=>ja (some (decide (j.2.2.1<0))) λn=>ifB n (m true) (ifB (decide (2<j.2.2.1)) (m true) (ifB (decide (j.2.2.2.1<0)) (m true) (m (decide (8<j.2.2.2.1))))))) λk=>ja (some (!g.1)) λo=>ifB o (ja (atL f.1 g.2.1) λp=>k (decide (¬p.2.2.1=0),g)) (k (false,g)))) λh=>ja (some (decide (c.2.1<0))) λq=>ifB q (h (true,b,c)) (h (decide (a<=c.2.1),b,c))) λd=>ifB s.1 (d ((r.2.1.length:Int),r,s)) (d ((r.1.length:Int),r,s))
def z4n:=lk (α:=HK) [(7,me [vp 2 0,vp 3 1,vi 5] [.box 26 [.v jc],.box 65 [.v jt]] 2),(60,me [vp 2 0,vp 3 1,vb 22] [.box 26 [.v jc],.box 65 [.v jt]] 2),(124,me [vp 3 0,vb 35] [.box 65 [.v jt]] 1),(252,me [vb 53] [] 0)]
theorem zst(a:Nat):jv 195 ⟨[jc,jt],I6,λt=>zd0 a (t.1) (t.2)⟩:=mk1 func195 a 0 [(0,[16,25,38])] [] [] [] itn z4n rn gn tn (by kernel_rfl) λt=>by kernel_rfl
def zdw(t:Nat)(r:jb)(s:Int):Option jd:=ja (atL r.2.2.1 s) λa=>J (σ:=Int×Bool×jb×jd×jh) (λ(b,c,d,e,f)=>ifB c (some (11,b,0,())) (ifB (decide (16<(f.2.1.length:Int))) (some (4,b,0,())) (jn (σ:=Int×Int×jb×jd×jh) (λ(h,i,j,k,l)m=>ifB (decide (i<(l.2.1.length:Int))) (ja (atL l.2.1 i) λn=>ja (zd0 t j n) λo=>ifB (decide (¬o=0)) (some (o,h,w64 (i+1),())) (ja (some (w64 (i+1))) λp=>m (h,p,j,k,l))) (some (0,0,0,()))) t (b,0,d,e,f)))) λg=>ja (some (decide (a.1<0))) λq=>ifB q (g (s,true,r,(0,0,0,()),a)) (g (s,decide ((r.2.1.length:Int)<=a.1),r,(0,0,0,()),a))
def z3d:=lk (α:=HK) [(28,me [vi 1,vp 2 0,vp 4 1,vp 5 2,vb 23] [.box 26 [.v jc],.box 36 [.v jj],.box 68 [.v js]] 3),(250,me [vi 1,vp 2 0,vp 4 1,vp 5 2,vi 6] [.box 26 [.v jc],.box 36 [.v jj],.box 68 [.v js]] 3)]
theorem zsm(a:Nat):jv 143 ⟨[jc,I6],jj,λt=>zdw a (t.1) (t.2)⟩:=mk1 func143 a 0 [(0,[15,38])] [] [] [] itn z3d rn gn (tc (zst a) tn) (by kernel_rfl) λt=>by kernel_rfl
def zek(p:Nat)(n:jb)(o:Int):Option W7:=jn (σ:=Int×Int×jb×W7) (λ(a,b,c,d)e=>ifB (decide (b<(c.2.2.1.length:Int))) (J (σ:=Int×Int×jb×W7) (λ(f,g,h,i)=>ja (some (w64 (g+1))) λk=>e (f,k,h,i)) λj=>ja (atL c.2.2.1 b) λl=>ifB (decide (l.1=a)) (ja (apO 8 d [b]) λm=>j (a,b,c,m)) (j (a,b,c,d))) (some d)) p (o,0,n,[])
def jbe:=lk (α:=HK) [(58,me [vi 1,vp 2 0,vo 5 1,vi 6] [.box 26 [.v jc],.row 3 I6] 2),(466,me [vi 1,vp 2 0,vo 5 1,vi 6] [.box 26 [.v jc],.row 3 I6] 2)]
theorem zzw(a:Nat):FFOk 144 ⟨[jc,I6],3,I6,λt=>zek a (t.1) (t.2)⟩:=mk2 func144 a 0 [(0,[14])] [(0,[(7,.own I6),(25,.told I6)])] [] [] itn jbe rn gn tn (by kernel_rfl) λt=>by kernel_rfl
theorem zzk(a:Nat):jv 144 ⟨[jc,I6],L6,λt=>zek a (t.1) (t.2)⟩:=(zzw a).pure
def Zv(t:Nat)(M:jb):Option jd:=ja (zcd t M) λa=>jn (σ:=Int×jb×jd×jd) (λ(b,c,d,e)f=>J (σ:=Int×Bool×jb×jd×jd) (λ(g,h,i,j,k)=>ifB h (ja (zcc t i g) λm=>ja (some (w64 (g+1))) λn=>f (n,i,j,m)) (jn (σ:=Int×jb×jd×jd) (λ(o,p,q,r)s=>J (σ:=Int×Bool×jb×jd×jd) (λ(u,v,w,x,y)=>ifB v (J (σ:=Int×jb×jd×jd) (λ(Z,b1,b2,b3)=>ja (some (w64 (Z+1))) λb5=>s (b5,b1,b2,b3)) λN=>ja (Vu t w) λb6=>ja (za2 t b6 (w64 ((w.1.length:Int)+u))) λO=>ifB (decide (¬O=0)) (N (u,w,x,(O,u,0,()))) (N (u,w,x,y))) (jn (σ:=Int×jb×jd×jd) (λ(b8,E,c0,F)c2=>J (σ:=Int×Bool×jb×jd×jd) (λ(P,c4,A,B,C)=>ifB c4 (ja (zdw t A P) λc9=>ja (some (w64 (P+1))) λd0=>c2 (d0,A,B,c9)) (J (σ:=jb×jd×jd) (λ(d1,d2,d3)=>jn (σ:=Int×jb×jd×jd) (λ(G,H,S,I)d9=>J (σ:=Int×Bool×jb×jd×jd) (λ(D,e1,K,T,U)=>ifB e1 (J (σ:=Int×jb×jd×jd) (λ(e6,e7,e8,e9)=>ja (some (w64 (e6+1))) λf1=>d9 (f1,e7,e8,e9)) λW=>ja (zek t K D) λf2=>ifB (decide ((f2.length:Int)=0)) (W (D,K,T,(5,D,0,()))) (W (D,K,T,U))) (some U)) λV=>ja (some (decide (I.1=0))) λf3=>ifB f3 (V (G,decide (G<(H.2.1.length:Int)),H,S,I)) (V (G,false,H,S,I))) t (0,d1,d2,d3)) λR=>J (σ:=Bool×jb×jd×jd) (λ(f4,X,Y,f7)=>ifB f4 (R (X,Y,(11,(-1),0,()))) (R (X,Y,f7))) λL=>ja (some (decide (C.1=0))) λf9=>ifB f9 (ja (some (decide (A.2.2.2.1<0))) λg0=>ifB g0 (L (true,A,B,C)) (L (decide ((A.2.1.length:Int)<=A.2.2.2.1),A,B,C))) (L (false,A,B,C)))) λQ=>ja (some (decide (F.1=0))) λg1=>ifB g1 (Q (b8,decide (b8<(E.2.2.1.length:Int)),E,c0,F)) (Q (b8,false,E,c0,F))) t (0,w,x,y))) λz=>ja (some (decide (r.1=0))) λg2=>ifB g2 (z (o,decide (o<(p.2.1.length:Int)),p,q,r)) (z (o,false,p,q,r))) t (0,i,j,k))) λl=>ja (some (decide (e.1=0))) λg3=>ifB g3 (l (b,decide (b<(c.1.length:Int)),c,d,e)) (l (b,false,c,d,e))) t (0,M,(0,0,0,()),a)
def zzo:=lk (α:=HK) [(58,me [vp 1 0,vp 2 1,vp 3 2,vi 4] [.box 26 [.v jc],.box 36 [.v jj],.box 36 [.v jj]] 3),(63,me [vp 1 0,vp 2 1,vp 3 2] [.box 26 [.v jc],.box 36 [.v jj],.box 36 [.v jj]] 3),(122,me [vp 1 0,vp 2 1,vp 3 2,vi 5] [.box 26 [.v jc],.box 36 [.v jj],.box 36 [.v jj]] 3),(250,me [vp 1 0,vp 2 1,vp 3 2,vi 7] [.box 26 [.v jc],.box 36 [.v jj],.box 36 [.v jj]] 3),(252,me [vp 1 0,vp 2 1,vp 3 2,vb 81] [.box 26 [.v jc],.box 36 [.v jj],.box 36 [.v jj]] 3),(464,me [vp 1 0,vp 2 1,vp 3 2,vi 4,vb 20] [.box 26 [.v jc],.box 36 [.v jj],.box 36 [.v jj]] 3),(976,me [vp 1 0,vp 2 1,vp 3 2,vi 5,vb 35] [.box 26 [.v jc],.box 36 [.v jj],.box 36 [.v jj]] 3),(978,me [vp 1 0,vp 2 1,vp 3 2,vi 5] [.box 26 [.v jc],.box 36 [.v jj],.box 36 [.v jj]] 3),(1018,me [vp 1 0,vp 2 1,vp 3 2,vi 8] [.box 26 [.v jc],.box 36 [.v jj],.box 36 [.v jj]] 3),(2000,me [vp 1 0,vp 2 1,vp 3 2,vi 7,vb 60] [.box 26 [.v jc],.box 36 [.v jj],.box 36 [.v jj]] 3),(8144,me [vp 1 0,vp 2 1,vp 3 2,vi 8,vb 92] [.box 26 [.v jc],.box 36 [.v jj],.box 36 [.v jj]] 3),(8146,me [vp 1 0,vp 2 1,vp 3 2,vi 8] [.box 26 [.v jc],.box 36 [.v jj],.box 36 [.v jj]] 3)]
theorem zg0(a:Nat):jv 74 ⟨[jc],jj,λt=>Zv a t⟩:=mk1 func74 a 0 [(0,[13,22,28,37,53,62,68,72,85,94])] [] [] [] itn zzo rn gn (tc (zo6 a) (tc (zp4 a) (tc (zio a) (tc (zg7 a) (tc (zsm a) (tc (zzk a) tn)))))) (by kernel_rfl) λt=>by kernel_rfl
def zha(v:Nat)(t:W9):Option W5:=jn (σ:=W9×Int×W5) (λ(a,b,c)d=>ifB (decide (b<=(a.length:Int))) (ja (some (w64 ((a.length:Int)+1))) λe=>ja (mkO 1 e) λf=>ja (apO 24 c [(List.replicate f false)]) λg=>ja (some (w64 (b+1))) λh=>d (a,h,g)) (jn (σ:=W9×Int×W5) (λ(i,j,k)l=>ifB (decide (j<=(i.length:Int))) (ja (jw k.length j) λm=>ja (atL k m) λn=>ja (ja (atL k m) λo=>jw o.length j) λp=>ja (ja (atL k m) λq=>ja (yz q p true) λr=>some (k.set m.toNat r)) λs=>ja (some (w64 (j+1))) λu=>l (i,u,s)) (some k)) v (t,0,c))) v (t,0,[])
def z5c:=lk (α:=HK) [(58,me [(0,.v .str),vo 3 0,vi 4] [.rows 57 4 .bool] 1)]
def ztf:=lk (α:=HK) [(58,me [(0,.v .str),vo 3 0,vi 4] [.rows 57 4 .bool] 1)]
theorem zsg(a:Nat):jv 234 ⟨[.str],(.sl LB),λt=>zha a t⟩:=mk1 func234 a 9 [(0,[12]),(1,[11,15])] [(1,[(5,.rows 4 .bool),(17,.ownx)])] [] [] (itc 650272 func272 ztf 1 [] itn (by kernel_rfl)) z5c rn gn tn (by kernel_rfl) λt=>by kernel_rfl
def Yk(i:Nat)(h:Wb)(g:Int):Option Bool:=ja (zsd .i64 (wr .i64 g) 64) λa=>ja (jw 4 a) λb=>ja (atL h.l b) λc=>ja (zp6 .u64 (wr .u64 g) 64) λd=>ja (zre .u64 c d) λe=>ja (zp6 .u64 e 2) λf=>some (decide (f=1))
theorem zev(a:Nat):jv 199 ⟨[(.arr 4 (.int .u64)),U8],.bool,λt=>Yk a (t.1) (t.2)⟩:=mk1 func199 a 0 [] [] [] [] itn h0 rn gn tn (by kernel_rfl) λt=>by kernel_rfl
def zji(t:Nat)(z:Wb)(y:W9):Option W5:=jn (σ:=W9×Int×W5) (λ(a,b,c)d=>ifB (decide (b<=(a.length:Int))) (ja (some (w64 ((a.length:Int)+1))) λe=>ja (mkO 1 e) λf=>ja (apO 24 c [(List.replicate f false)]) λg=>ja (some (w64 (b+1))) λh=>d (a,h,g)) (jn (σ:=W9×Int×Wb×W5) (λ(i,j,k,l)m=>ifB (decide (j<(i.length:Int))) (ja (jw l.length j) λn=>ja (atL l n) λo=>ja (zmj i j) λp=>ja (Yk t k p) λq=>ja (ja (atL l n) λr=>jw r.length (w64 (j+1))) λs=>ja (ja (atL l n) λu=>ja (yz u s q) λv=>some (l.set n.toNat v)) λw=>ja (some (w64 (j+1))) λx=>m (i,x,k,w)) (some l)) t (y,0,z,c))) t (y,0,[])
def z8k:=lk (α:=HK) [(58,me [(1,.v .str),vp 2 0,vo 5 1,vi 6] [.box 125 [.v (.arr 4 (.int .u64))],.rows 57 4 .bool] 2)]
def zvc:=lk (α:=HK) [(58,me [(0,.v .str),vo 3 0,vi 4] [.rows 57 4 .bool] 1)]
theorem zwd(a:Nat):jv 235 ⟨[(.arr 4 (.int .u64)),.str],(.sl LB),λt=>zji a (t.1) (t.2)⟩:=mk1 func235 a 9 [(0,[14]),(1,[11,15])] [(1,[(5,.rows 4 .bool),(17,.ownx)])] [] [] (itc 650272 func272 zvc 1 [] itn (by kernel_rfl)) z8k rn gn (tc (zev a) tn) (by kernel_rfl) λt=>by kernel_rfl
def za7(E:Nat)(P:W5)(Q:W5)(L:W9):Option W5:=jn (σ:=W9×Int×W5) (λ(a,b,c)d=>ifB (decide (b<=(a.length:Int))) (ja (some (w64 ((a.length:Int)+1))) λe=>ja (mkO 1 e) λf=>ja (apO 24 c [(List.replicate f false)]) λg=>ja (some (w64 (b+1))) λh=>d (a,h,g)) (jn (σ:=W5×W5×W9×Int×W5) (λ(i,j,k,l,m)n=>ifB (decide (l<=(k.length:Int))) (jn (σ:=W5×W5×W9×Int×Int×W5) (λ(o,p,q,r,s,u)v=>ifB (decide (s<=(q.length:Int))) (jn (σ:=W5×W5×W9×Int×Int×Int×W5) (λ(w,x,y,z,F,G,M)R=>J (σ:=W5×W5×W9×Int×Int×Int×Bool×W5) (λ(H,D,I,C,b8,B,c0,t)=>ifB c0 (J (σ:=W5×W5×W9×Int×Int×Int×W5) (λ(S,T,U,V,W,X,Y)=>ja (some (w64 (X+1))) λZ=>R (S,T,U,V,W,Z,Y)) λO=>ja (jw t.length C) λA=>ja (atL t A) λd3=>ja (jw t.length C) λK=>ja (atL t K) λd5=>ja (ja (atL t K) λd6=>jw d6.length B) λd7=>ja (ja (atL t K) λd8=>atL d8 d7) λd9=>ifB d9 (ja (ja (atL t A) λe0=>jw e0.length B) λe1=>ja (ja (atL t A) λe2=>ja (yz e2 e1 true) λe3=>some (t.set A.toNat e3)) λe4=>O (H,D,I,C,b8,B,e4)) (ja (atL D b8) λe5=>ja (atL e5 B) λe6=>ja (ja (atL t A) λe7=>jw e7.length B) λe8=>ja (ja (atL t A) λe9=>ja (yz e9 e8 e6) λf0=>some (t.set A.toNat f0)) λf1=>O (H,D,I,C,b8,B,f1))) (ja (some (w64 (b8+1))) λf2=>v (H,D,I,C,f2,t))) λN=>ja (atL w z) λf3=>ja (atL f3 F) λf4=>ifB f4 (N (w,x,y,z,F,G,decide (G<=(y.length:Int)),M)) (N (w,x,y,z,F,G,false,M))) E (o,p,q,r,s,s,u)) (ja (some (w64 (r+1))) λf5=>n (o,p,q,f5,u))) E (i,j,k,l,l,m)) (some m)) E (P,Q,L,0,c))) E (L,0,[])
def zyk:=lk (α:=HK) [(58,me [(0,.v (.sl LB)),(1,.v (.sl LB)),(2,.v .str),vo 7 0,vi 8] [.rows 57 4 .bool] 1),(3730,me [(0,.v (.sl LB)),(1,.v (.sl LB)),(2,.v .str),vo 7 0,vi 8,vi 9] [.rows 57 4 .bool] 1),(238738,me [(0,.v (.sl LB)),(1,.v (.sl LB)),(2,.v .str),vo 7 0,vi 8,vi 9,vi 10] [.rows 57 4 .bool] 1),(1909904,me [(0,.v (.sl LB)),(1,.v (.sl LB)),(2,.v .str),vo 7 0,vi 8,vi 9,vi 10,vb 39] [.rows 57 4 .bool] 1),(3819812,me [(0,.v (.sl LB)),(1,.v (.sl LB)),(2,.v .str),vo 7 0,vi 8,vi 9,vi 10] [.rows 57 4 .bool] 1)]
def znr:=lk (α:=HK) [(58,me [(0,.v .str),vo 3 0,vi 4] [.rows 57 4 .bool] 1)]
theorem zfh(a:Nat):jv 236 ⟨[(.sl LB),(.sl LB),.str],(.sl LB),λt=>za7 a (t.1) (t.2.1) (t.2.2)⟩:=mk1 func236 a 9 [(0,[18,25,41]),(1,[11,15])] [(1,[(5,.rows 4 .bool),(17,.ownx)])] [] [] (itc 650272 func272 znr 1 [] itn (by kernel_rfl)) zyk rn gn tn (by kernel_rfl) λt=>by kernel_rfl
def Yu(A:Nat)(D:W5)(E:W5)(B:W9):Option W5:=jn (σ:=W9×Int×W5) (λ(a,b,c)d=>ifB (decide (b<=(a.length:Int))) (ja (some (w64 ((a.length:Int)+1))) λe=>ja (mkO 1 e) λf=>ja (apO 24 c [(List.replicate f false)]) λg=>ja (some (w64 (b+1))) λh=>d (a,h,g)) (jn (σ:=W5×W5×W9×Int×W5) (λ(i,j,k,l,m)n=>ifB (decide (l<=(k.length:Int))) (jn (σ:=W5×W5×W9×Int×Int×W5) (λ(o,p,q,r,s,u)v=>ifB (decide (s<=(q.length:Int))) (J (σ:=W5×W5×W9×Int×Int×W5) (λ(w,x,y,z,F,G)=>ja (some (w64 (F+1))) λH=>v (w,x,y,z,H,G)) λC=>ja (jw u.length r) λt=>ja (atL u t) λW=>ja (atL o r) λI=>ja (atL I s) λK=>ifB K (ja (ja (atL u t) λb8=>jw b8.length s) λL=>ja (ja (atL u t) λc0=>ja (yz c0 L true) λM=>some (u.set t.toNat M)) λN=>C (o,p,q,r,s,N)) (ja (atL p r) λO=>ja (atL O s) λP=>ja (ja (atL u t) λQ=>jw Q.length s) λR=>ja (ja (atL u t) λS=>ja (yz S R P) λT=>some (u.set t.toNat T)) λU=>C (o,p,q,r,s,U))) (ja (some (w64 (r+1))) λV=>n (o,p,q,V,u))) A (i,j,k,l,0,m)) (some m)) A (D,E,B,0,c))) A (B,0,[])
def z23:=lk (α:=HK) [(58,me [(0,.v (.sl LB)),(1,.v (.sl LB)),(2,.v .str),vo 7 0,vi 8] [.rows 57 4 .bool] 1),(3730,me [(0,.v (.sl LB)),(1,.v (.sl LB)),(2,.v .str),vo 7 0,vi 8,vi 9] [.rows 57 4 .bool] 1),(59684,me [(0,.v (.sl LB)),(1,.v (.sl LB)),(2,.v .str),vo 7 0,vi 8,vi 9] [.rows 57 4 .bool] 1)]
def ztk:=lk (α:=HK) [(58,me [(0,.v .str),vo 3 0,vi 4] [.rows 57 4 .bool] 1)]
theorem zij(a:Nat):jv 237 ⟨[(.sl LB),(.sl LB),.str],(.sl LB),λt=>Yu a (t.1) (t.2.1) (t.2.2)⟩:=mk1 func237 a 9 [(0,[17,23]),(1,[11,15])] [(1,[(5,.rows 4 .bool),(17,.ownx)])] [] [] (itc 650272 func272 ztk 1 [] itn (by kernel_rfl)) z23 rn gn tn (by kernel_rfl) λt=>by kernel_rfl
def zcg(h:Nat)(i:W5)(j:W9):Option W5:=jn (σ:=W9×W5×Int) (λ(a,b,c)d=>ifB (decide (c<=(w64 ((a.length:Int)+1)))) (ja (za7 h b b a) λe=>ja (Yu h b e a) λf=>ja (some (w64 (2*c))) λg=>d (a,f,g)) (some b)) h (j,i,1)
def zzy:=lk (α:=HK) [(58,me [(1,.v .str),(5,.v (.sl LB)),vi 6] [] 0)]
theorem zq6(a:Nat):jv 238 ⟨[(.sl LB),.str],(.sl LB),λt=>zcg a (t.1) (t.2)⟩:=mk1 func238 a 0 [(0,[14])] [] [] [] itn zzy rn gn (tc (zfh a) (tc (zij a) tn)) (by kernel_rfl) λt=>by kernel_rfl
def zcj(t:Nat)(A:(List jf))(B:W9):Option W5:=jn (σ:=(List jf)×W9×Int×W3) (λ(a,b,c,d)e=>ifB (decide (c<(a.length:Int))) (ja (atL a c) λf=>ja (Qp t f.1) λg=>ja (some (w64 ((d.length:Int)-g))) λh=>ja (zha t b) λi=>ja (atL a c) λj=>J (σ:=(List jf)×W9×Int×Int×W5×W3) (λ(k,l,m,n,o,p)=>ja (Zb p n) λr=>ja (apO 24 [] r) λs=>ja (apO 24 s [o]) λu=>ja (some (w64 (m+1))) λv=>e (k,l,v,u)) λq=>ifB (decide (j.1=1)) (ja (atL a c) λw=>ja (zji t w.2.1 b) λx=>q (a,b,c,h,x,d)) (ifB (decide (j.1=3)) (ja (jw d.length h) λy=>ja (atL d y) λz=>ja (jw d.length (w64 (h+1))) λC=>ja (atL d C) λD=>ja (za7 t z D b) λE=>q (a,b,c,h,E,d)) (ifB (decide (j.1=4)) (ja (jw d.length h) λF=>ja (atL d F) λG=>ja (jw d.length (w64 (h+1))) λH=>ja (atL d H) λI=>ja (Yu t G I b) λK=>q (a,b,c,h,K,d)) (ifB (decide (j.1=7)) (ja (jw d.length h) λb8=>ja (atL d b8) λL=>ja (Yu t i L b) λc0=>q (a,b,c,h,c0,d)) (ifB (decide (j.1=6)) (ja (jw d.length h) λM=>ja (atL d M) λN=>ja (zcg t N b) λO=>q (a,b,c,h,O,d)) (ifB (decide (j.1=5)) (ja (jw d.length h) λP=>ja (atL d P) λQ=>ja (zcg t Q b) λR=>ja (Yu t i R b) λS=>q (a,b,c,h,S,d)) (q (a,b,c,h,i,d)))))))) (ja (jw d.length 0) λT=>ja (atL d T) λU=>some U)) t (A,B,0,[])
def zzu:=lk (α:=HK) [(58,me [(0,.v (.sl jl)),(1,.v .str),vo 5 0,vi 6] [.row 52 (.sl LB)] 1),(14925,me [(0,.v (.sl jl)),(1,.v .str),vo 5 0,vi 6,vi 7,(8,.v (.sl LB))] [.row 52 (.sl LB)] 1)]
theorem zq7(a:Nat):jv 196 ⟨[(.sl jl),.str],(.sl LB),λt=>zcj a (t.1) (t.2)⟩:=mk1 func196 a 0 [(0,[15,24])] [(0,[(9,.own (.sl LB)),(95,.own (.sl LB)),(101,.told (.sl LB))])] [] [] itn zzu rn gn (tc (zf6 a) (tc (zsg a) (tc (zwd a) (tc (zfh a) (tc (zij a) (tc (zq6 a) tn)))))) (by kernel_rfl) λt=>by kernel_rfl
def zai(y:Nat)(w:(List jf))(x:W9)(t:Int):Option W7:=J (σ:=(List jf)×W9×Int×Bool×W7) (λ(a,b,c,d,e)=>ifB d (some e) (ja (zcj y a b) λg=>ja (atL g c) λh=>jn (σ:=W8×Int×W7) (λ(i,j,k)l=>ifB (decide (j<(i.length:Int))) (J (σ:=W8×Int×W7) (λ(m,n,o)=>ja (some (w64 (n+1))) λq=>l (m,q,o)) λp=>ja (atL i j) λr=>ifB r (ja (apO 8 k [j]) λs=>p (i,j,s)) (p (i,j,k))) (some k)) y (h,0,e))) λf=>ja (Jq y w) λu=>ja (some (decide (¬u=0))) λv=>ifB v (f (w,x,t,true,[])) (ifB (decide (t<0)) (f (w,x,t,true,[])) (f (w,x,t,decide ((x.length:Int)<t),[])))
def z5n:=lk (α:=HK) [(28,me [(0,.v (.sl jl)),(1,.v .str),vi 2,vo 7 0,vb 23] [.row 3 I6] 1),(250,me [vo 7 0,(8,.v LB),vi 9] [.row 3 I6] 1),(2002,me [vo 7 0,(8,.v LB),vi 9] [.row 3 I6] 1)]
theorem zua(a:Nat):FFOk 145 ⟨[(.sl jl),.str,I6],3,I6,λt=>zai a (t.1) (t.2.1) (t.2.2)⟩:=mk2 func145 a 0 [(0,[13,36])] [(0,[(10,.own I6),(43,.told I6)])] [] [] itn z5n rn gn (tc (Q1 a) (tc (zq7 a) tn)) (by kernel_rfl) λt=>by kernel_rfl
theorem zs6(a:Nat):jv 145 ⟨[(.sl jl),.str,I6],L6,λt=>zai a (t.1) (t.2.1) (t.2.2)⟩:=(zua a).pure
def zdt(h:Nat)(g:(List jf))(f:W9):Option Bool:=ja (zai h g f 0) λa=>J (λ(b:Bool)=>some b) λc=>ja (some (decide (0<(a.length:Int)))) λd=>ifB d (ja (atL a (w64 ((a.length:Int)-1))) λe=>c (decide (e=(f.length:Int)))) (c false)
def z36:=lk (α:=HK) [(14,me [vb 4] [] 0)]
theorem zs4(a:Nat):jv 75 ⟨[(.sl jl),.str],.bool,λt=>zdt a (t.1) (t.2)⟩:=mk1 func75 a 0 [(0,[11])] [] [] [] itn z36 rn gn (tc (zs6 a) tn) (by kernel_rfl) λt=>by kernel_rfl
def yj(c:Nat)(b:jb):Option Bool:=ja (Zv c b) λa=>some (zzq [a.1 == (0,0,0,()).1,a.2.1 == (0,0,0,()).2.1,a.2.2.1 == (0,0,0,()).2.2.1])
theorem yp(a:Nat):jv 93 ⟨[jc],.bool,λt=>yj a t⟩:=mk1 func93 a 0 [] [] [] [] itn h0 rn gn (tc (zg0 a) tn) (by kernel_rfl) λt=>by kernel_rfl
def yn(B:Nat)(t:jb):Option W8:=ja (yj B t) λa=>ifB (!a) (some []) (ja (some (t.2.1.length:Int)) λb=>ja (mkO 1 b) λc=>ja (jw (List.replicate c false).length t.2.2.2.1) λd=>ja (yz (List.replicate c false) d true) λe=>jn (σ:=Int×jb×W8) (λ(f,g,h)i=>ifB (decide (f<=(g.2.1.length:Int))) (jn (σ:=Int×Int×jb×W8) (λ(j,k,l,m)n=>ifB (decide (k<(l.2.2.1.length:Int))) (jn (σ:=Int×Int×Int×jb×W8) (λ(o,p,q,r,s)u=>J (σ:=Int×Int×Int×Bool×jb×W8) (λ(v,w,x,y,z,A)=>ifB y (J (σ:=Int×Int×Int×jb×W8) (λ(E,F,G,H,I)=>ja (some (w64 (G+1))) λb8=>u (E,F,b8,H,I)) λD=>ja (atL z.2.2.1 w) λK=>ja (atL K.2.1 x) λc0=>ifB c0.1 (ja (jw A.length c0.2.1) λL=>ja (yz A L true) λM=>D (v,w,x,z,M)) (D (v,w,x,z,A))) (ja (some (w64 (w+1))) λN=>n (v,N,z,A))) λC=>ja (atL r.2.2.1 p) λO=>ja (jw s.length O.1) λP=>ja (atL s P) λQ=>ifB Q (ja (atL r.2.2.1 p) λR=>C (o,p,q,decide (q<(R.2.1.length:Int)),r,s)) (C (o,p,q,false,r,s))) B (j,k,0,l,m)) (ja (some (w64 (j+1))) λS=>i (S,l,m))) B (f,0,g,h)) (some h)) B (0,t,e))
def zsy:=lk (α:=HK) [(250,me [vp 1 0,vo 3 1,vi 4] [.box 26 [.v jc],.row 4 .bool] 2),(16018,me [vp 1 0,vo 3 1,vi 4,vi 5] [.box 26 [.v jc],.row 4 .bool] 2),(1025170,me [vp 1 0,vo 3 1,vi 4,vi 5,vi 6] [.box 26 [.v jc],.row 4 .bool] 2),(8201360,me [vp 1 0,vo 3 1,vi 4,vi 5,vi 6,vb 53] [.box 26 [.v jc],.row 4 .bool] 2),(8201362,me [vp 1 0,vo 3 1,vi 4,vi 5,vi 6] [.box 26 [.v jc],.row 4 .bool] 2)]
theorem zlv(a:Nat):FFOk 76 ⟨[jc],4,.bool,λt=>yn a t⟩:=mk2 func76 a 0 [(0,[14,26,33,55])] [(0,[(11,.own .bool)])] [] [] itn zsy rn gn (tc (yp a) tn) (by kernel_rfl) λt=>by kernel_rfl
theorem zeg(a:Nat):jv 76 ⟨[jc],LB,λt=>yn a t⟩:=(zlv a).pure
def zcq(x:Nat)(t:(List ji))(v:W8)(w:Bool):Option Bool:=jn (σ:=(List ji)×W8×Bool×Int) (λ(a,b,c,d)e=>ifB (decide (d<(a.length:Int))) (J (σ:=(List ji)×W8×Bool×Int×Bool) (λ(f,g,h,i,j)=>ifB j (some false) (ja (some (w64 (i+1))) λl=>e (f,g,h,l))) λk=>ja (atL a d) λm=>ja (some (!m.1)) λn=>ifB n (ifB (!c) (k (a,b,c,d,true)) (ja (atL a d) λo=>ifB o.1 (ja (atL a d) λp=>ja (atL b p.2.1) λq=>k (a,b,c,d,!q)) (k (a,b,c,d,false)))) (ja (atL a d) λr=>ifB r.1 (ja (atL a d) λs=>ja (atL b s.2.1) λu=>k (a,b,c,d,!u)) (k (a,b,c,d,false)))) (some true)) x (t,v,w,0)
def z57:=lk (α:=HK) [(26,me [(0,.v (.sl jt)),(1,.v LB),vb 2,vi 7] [] 0),(840,me [(0,.v (.sl jt)),(1,.v LB),vb 2,vi 7,vb 41] [] 0)]
theorem zjg(a:Nat):jv 197 ⟨[(.sl jt),LB,.bool],.bool,λt=>zcq a (t.1) (t.2.1) (t.2.2)⟩:=mk1 func197 a 0 [(0,[13,19])] [] [] [] itn z57 rn gn tn (by kernel_rfl) λt=>by kernel_rfl
def zf8(t:Nat)(A:jb)(B:Bool):Option W8:=ja (yj t A) λa=>ifB (!a) (some []) (ja (some (A.2.1.length:Int)) λb=>ja (mkO 1 b) λc=>jn (σ:=Bool×Int×jb×W8) (λ(d,e,f,g)h=>ifB (decide (e<=(f.2.1.length:Int))) (jn (σ:=Bool×Int×Int×jb×W8) (λ(i,j,k,l,m)n=>ifB (decide (k<(l.2.2.1.length:Int))) (J (σ:=Bool×Int×Int×jb×W8) (λ(o,p,q,r,s)=>ja (some (w64 (q+1))) λv=>n (o,p,v,r,s)) λu=>ja (atL l.2.2.1 k) λw=>ja (zcq t w.2.1 m i) λx=>ifB x (ja (atL l.2.2.1 k) λy=>ja (jw m.length y.1) λz=>ja (yz m z true) λC=>u (i,j,k,l,C)) (u (i,j,k,l,m))) (ja (some (w64 (j+1))) λD=>h (i,D,l,m))) t (d,e,0,f,g)) (some g)) t (B,0,A,(List.replicate c false)))
def zzt:=lk (α:=HK) [(122,me [vb 1,vp 2 0,vo 5 1,vi 6] [.box 26 [.v jc],.row 4 .bool] 2),(7826,me [vb 1,vp 2 0,vo 5 1,vi 6,vi 7] [.box 26 [.v jc],.row 4 .bool] 2),(62610,me [vb 1,vp 2 0,vo 5 1,vi 6,vi 7] [.box 26 [.v jc],.row 4 .bool] 2)]
theorem zgr(a:Nat):FFOk 146 ⟨[jc,.bool],4,.bool,λt=>zf8 a (t.1) (t.2)⟩:=mk2 func146 a 0 [(0,[14,22,29])] [(0,[(11,.own .bool)])] [] [] itn zzt rn gn (tc (yp a) (tc (zjg a) tn)) (by kernel_rfl) λt=>by kernel_rfl
abbrev zco:=zf8
def Vt(c:Nat)(b:jb):Option W8:=ja (zco c b true) λa=>some a
theorem zp0(a:Nat):FFOk 77 ⟨[jc],4,.bool,λt=>Vt a t⟩:=mk2 func77 a 0 [] [] [] [65] itn h0 rn (gc (zgr a) gn) tn (by kernel_rfl) λt=>by kernel_rfl
theorem zps(a:Nat):jv 77 ⟨[jc],LB,λt=>Vt a t⟩:=(zp0 a).pure
def Zr(w:Nat)(t:jb)(v:(List ji)):Option Bool:=jn (σ:=(List ji)×Int×jb) (λ(a,b,c)d=>ifB (decide (b<(a.length:Int))) (J (σ:=(List ji)×Int×Bool×jb) (λ(e,f,g,h)=>ifB g (some false) (ja (some (w64 (f+1))) λj=>d (e,j,h))) λi=>ja (atL a b) λk=>ja (some (decide (k.2.1<0))) λl=>ifB l (i (a,b,true,c)) (ja (atL a b) λm=>ifB m.1 (ja (atL a b) λn=>ifB (decide ((c.2.1.length:Int)<=n.2.1)) (i (a,b,true,c)) (ja (atL a b) λo=>ja (some (!o.1)) λp=>ifB p (ja (atL a b) λq=>i (a,b,decide ((c.1.length:Int)<=q.2.1),c)) (i (a,b,false,c)))) (ja (atL a b) λr=>ja (some (!r.1)) λs=>ifB s (ja (atL a b) λu=>i (a,b,decide ((c.1.length:Int)<=u.2.1),c)) (i (a,b,false,c))))) (some true)) w (v,0,t)
def zy8:=lk (α:=HK) [(26,me [(1,.v (.sl jt)),vp 2 0,vi 5] [.box 26 [.v jc]] 1),(840,me [(1,.v (.sl jt)),vp 2 0,vi 5,vb 54] [.box 26 [.v jc]] 1)]
theorem zg3(a:Nat):jv 239 ⟨[jc,(.sl jt)],.bool,λt=>Zr a (t.1) (t.2)⟩:=mk1 func239 a 0 [(0,[11,17,42])] [] [] [] itn zy8 rn gn tn (by kernel_rfl) λt=>by kernel_rfl
def zz(c:Nat)(b:jb):Option W8:=ja (zco c b false) λa=>some a
theorem zrh(a:Nat):FFOk 240 ⟨[jc],4,.bool,λt=>zz a t⟩:=mk2 func240 a 0 [] [] [] [65] itn h0 rn (gc (zgr a) gn) tn (by kernel_rfl) λt=>by kernel_rfl
theorem zgy(a:Nat):jv 240 ⟨[jc],LB,λt=>zz a t⟩:=(zrh a).pure
abbrev zdj:LH:=⟨[(0,.v jc),(1,.v LB),(2,.v (.sl jt)),(3,.v I6),(4,.own 0)],[(0,.row 4 .bool)],1⟩
abbrev zdb:LH:=⟨[(10,.v .bool)],[(0,.row 4 .bool)],1⟩
def Jt(K:Nat)(rec:(jb×W8×(List ji)×Int×W8)->Option (Bool×W8))(t:jb×W8×(List ji)×Int×W8):Option (Bool×W8):=jn (σ:=W8×(List ji)×Int×Int×W8×jb) (λ(a,b,c,d,e,f)g=>ifB (decide (d<(b.length:Int))) (ja (atL b d) λh=>ifB (!h.1) (ja (atL b d) λi=>some (decide (i.2.1=c),e)) (J (σ:=W8×(List ji)×Int×Int×Bool×W8×jb) (λ(j,k,l,m,n,o,p)=>ifB n (some (true,o)) (ja (atL k m) λr=>ja (atL j r.2.1) λs=>ifB (!s) (some (false,o)) (ja (some (w64 (m+1))) λu=>g (j,k,l,u,o,p)))) λq=>ja (atL b d) λv=>ja (jw e.length v.2.1) λw=>ja (atL e w) λx=>ifB x (q (a,b,c,d,false,e,f)) (ja (jw e.length v.2.1) λy=>ja (yz e y true) λz=>jn (σ:=W8×Int×Int×Int×W8×jb) (λ(C,D,E,B,F,A)L=>ifB (decide (B<(A.2.2.1.length:Int))) (J (σ:=W8×Int×Int×Int×Bool×W8×jb) (λ(M,b8,N,c0,O,G,P)=>ifB O (q (a,b,c,d,true,G,f)) (ja (some (w64 (c0+1))) λQ=>L (M,b8,N,Q,G,P))) λH=>ja (atL A.2.2.1 B) λR=>ja (some (decide (R.1=D))) λS=>ifB S (ja (atL A.2.2.1 B) λT=>ja (rec (A,C,T.2.1,E,F)) λI=>H (C,D,E,B,I.1,I.2,A)) (H (C,D,E,B,false,F,A))) (q (a,b,c,d,false,F,f))) K (a,v.2.1,c,0,z,f)))) (some (false,e))) K (t.2.1,t.2.2.1,t.2.2.2.1,0,t.2.2.2.2,t.1)
def q9(a:Nat):Nat->(jb×W8×(List ji)×Int×W8)->Option (Bool×W8)
 |0,_=>none
 |m+1,t=>Jt a (q9 a m) t
def zx8:=lk (α:=HK) [(26,me [(1,.v LB),(2,.v (.sl jt)),vi 3,vo 4 0,vp 5 1,vi 11] [.row 4 .bool,.box 26 [.v jc]] 2),(3364,me [(1,.v LB),(2,.v (.sl jt)),vi 3,vo 4 0,vp 5 1,vi 11,vb 40] [.row 4 .bool,.box 26 [.v jc]] 2)]
def zon:=lk (α:=HK) [(122,me [(1,.v LB),vi 2,vi 3,vo 4 0,vp 5 1,vi 11] [.row 4 .bool,.box 26 [.v jc]] 2),(3912,me [(1,.v LB),vi 2,vi 3,vo 4 0,vp 5 1,vi 11,vb 46] [.row 4 .bool,.box 26 [.v jc]] 2)]
theorem zmw(a:Nat):∀m,zoo Tryz.prog ⟨241,Tryz.f241.ntmps,Tryz.f241.results.toList,1,[],zdj,zdb,q9 a m⟩:=mk5 (hin:=zdj) (hout:=zdb) (bo:=Jt a) (q:=q9 a) func241 a 9 [(0,[17]),(1,[25,33])] [] [] [] (itc 3930273 func273 zon 1 [] itn (by kernel_rfl)) zx8 (λrec h=>rc h rn) gn tn (by kernel_rfl) (λrec t=>by kernel_rfl) (λ_=>rfl) λ_ _=>rfl
abbrev zxd(nn:Nat):RE:=⟨241,Tryz.f241.ntmps,Tryz.f241.results.toList,1,[],zdj,zdb,q9 nn nn⟩
theorem zos(a:Nat):zoo Tryz.prog (zxd a):=zmw a a
def zbv(t:Nat)(A:jb)(B:(List ji)):Option W7:=J (σ:=(List ji)×Bool×jb×W7) (λ(a,b,c,d)=>ifB b (some d) (ja (zz t c) λf=>jn (σ:=(List ji)×W8×Int×jb×W7) (λ(g,h,i,j,k)l=>ifB (decide (i<(j.1.length:Int))) (J (σ:=(List ji)×W8×Int×jb×W7) (λ(m,n,o,p,q)=>ja (some (w64 (o+1))) λs=>l (m,n,s,p,q)) λr=>ja (some (j.2.1.length:Int)) λu=>ja (mkO 1 u) λv=>ja (q9 t t (j,h,g,i,(List.replicate v false))) λw=>ifB w.1 (ja (apO 8 k [i]) λx=>r (g,h,i,j,x)) (r (g,h,i,j,k))) (some k)) t (a,f,0,c,d))) λe=>ja (yj t A) λy=>ja (some (!y)) λz=>ifB z (e (B,true,A,[])) (ja (Zr t A B) λC=>e (B,!C,A,[]))
def jab:=lk (α:=HK) [(28,me [(1,.v (.sl jt)),vp 2 0,vo 5 1,vb 17] [.box 26 [.v jc],.row 3 I6] 2),(250,me [(1,.v (.sl jt)),vp 2 0,vo 5 1,(6,.v LB),vi 7] [.box 26 [.v jc],.row 3 I6] 2),(2002,me [(1,.v (.sl jt)),vp 2 0,vo 5 1,(6,.v LB),vi 7] [.box 26 [.v jc],.row 3 I6] 2)]
theorem zk9(a:Nat):FFOk 205 ⟨[jc,(.sl jt)],3,I6,λt=>zbv a (t.1) (t.2)⟩:=mk2 func205 a 0 [(0,[11,27,34])] [(0,[(8,.own I6),(39,.told I6)])] [] [] itn jab (rc (zos a) rn) gn (tc (yp a) (tc (zg3 a) (tc (zgy a) tn))) (by kernel_rfl) λt=>by kernel_rfl
abbrev zym:=zbv
theorem zzi(a:Nat):jv 205 ⟨[jc,(.sl jt)],L6,λt=>zbv a (t.1) (t.2)⟩:=(zk9 a).pure
def zah(g:Nat)(h:jb)(i:(List ji)):Option Bool:=J (λ(a:Bool)=>some a) λb=>ja (yj g h) λc=>ifB c (ja (Zr g h i) λd=>ifB d (ja (zz g h) λe=>ja (zcq g i e false) λf=>b f) (b false)) (b false)
def z2w:=lk (α:=HK) [(6,me [vb 4] [] 0)]
theorem zh6(a:Nat):jv 206 ⟨[jc,(.sl jt)],.bool,λt=>zah a (t.1) (t.2)⟩:=mk1 func206 a 0 [] [] [] [] itn z2w rn gn (tc (yp a) (tc (zjg a) (tc (zg3 a) (tc (zgy a) tn)))) (by kernel_rfl) λt=>by kernel_rfl
def zag(e:Nat)(d:jb)(f:jh)(g:Int):Option (W7×Bool×Unit):=ja (zk0 f.2.1 (some (w64 (g+1))) none) λa=>ja (zbv e d a) λb=>ja (zah e d a) λc=>some (b,c,())
theorem zoh(a:Nat):jv 242 ⟨[jc,js,I6],(.tup (.cons L6 (.cons .bool .nil))),λt=>zag a (t.1) (t.2.1) (t.2.2)⟩:=mk1 func242 a 0 [] [] [] [] itn h0 rn gn (tc (zzi a) (tc (zh6 a) tn)) (by kernel_rfl) λt=>by kernel_rfl
def Qb(i:Nat)(g:W7)(h:Int):Option Bool:=jn (σ:=W7×Int×Int) (λ(a,b,c)d=>ifB (decide (c<(a.length:Int))) (ja (atL a c) λe=>ifB (decide (e=b)) (some true) (ja (some (w64 (c+1))) λf=>d (a,b,f))) (some false)) i (g,h,0)
def z8n:=lk (α:=HK) [(26,me [vl 0,vi 1,vi 5] [] 0)]
theorem Qy(a:Nat):jv 34 ⟨[L6,I6],.bool,λt=>Qb a (t.1) (t.2)⟩:=mk1 func34 a 0 [(0,[11])] [] [] [] itn z8n rn gn tn (by kernel_rfl) λt=>by kernel_rfl
def zhs(A:Nat)(D:W7):Option W7:=jn (σ:=W7×Int×W7) (λ(a,b,c)d=>ifB (decide (b<(a.length:Int))) (J (σ:=W7×Int×W7) (λ(e,f,g)=>ja (some (w64 (f+1))) λi=>d (e,i,g)) λh=>ja (atL a b) λj=>ja (Qb A c j) λk=>ifB k (h (a,b,c)) (jn (σ:=Int×Int×W7×W7) (λ(l,m,n,o)p=>J (σ:=Int×Int×Bool×W7×W7) (λ(q,r,s,u,v)=>ifB s (ja (jw u.length r) λx=>ja (atL u x) λy=>ja (apO 8 v [y]) λz=>ja (some (w64 (r+1))) λE=>p (q,E,u,z)) (ja (apO 8 v [q]) λF=>jn (σ:=Int×W7×W7) (λ(B,t,C)G=>ifB (decide (B<(t.length:Int))) (ja (jw t.length B) λH=>ja (atL t H) λI=>ja (apO 8 C [I]) λb8=>ja (some (w64 (B+1))) λK=>G (K,t,b8)) (h (a,b,C))) A ((v.length:Int),u,F))) λw=>ja (some (decide (m<(n.length:Int)))) λc0=>ifB c0 (ja (jw n.length m) λL=>ja (atL n L) λM=>w (l,m,decide (M<l),n,o)) (w (l,m,false,n,o))) A (j,0,c,[]))) (some c)) A (D,0,[])
def z95:=lk (α:=HK) [(58,me [vl 0,vo 3 0,vi 4] [.row 3 I6] 1),(932,me [vl 0,vo 3 0,vi 4] [.row 3 I6] 1)]
def zy5:=lk (α:=HK) [(122,me [vo 0 0,vi 1,vo 5 1,vi 6] [.row 3 I6,.row 3 I6] 2),(976,me [vo 0 0,vi 1,vo 5 1,vi 6,vb 25] [.row 3 I6,.row 3 I6] 2),(1018,me [vo 0 0,vo 5 1,vi 8] [.row 3 I6,.row 3 I6] 2)]
theorem zk6(a:Nat):FFOk 92 ⟨[L6],3,I6,λt=>zhs a t⟩:=mk2 func92 a 9 [(0,[11]),(1,[17,27,47])] [(0,[(5,.own I6)]),(1,[(13,.own I6),(33,.told I6),(39,.told I6),(53,.told I6)])] [] [] (itc 3250153 func153 zy5 1 [] itn (by kernel_rfl)) z95 rn gn (tc (Qy a) tn) (by kernel_rfl) λt=>by kernel_rfl
abbrev zyn:=zhs
def Qh(t:Nat)(D:W7)(E:W7):Option W7:=ja (zyn t D) λa=>jn (σ:=W7×Int×W7) (λ(b,c,d)e=>ifB (decide (c<(b.length:Int))) (J (σ:=W7×Int×W7) (λ(f,g,h)=>ja (some (w64 (g+1))) λj=>e (f,j,h)) λi=>ja (atL b c) λk=>ja (Qb t d k) λl=>ifB l (i (b,c,d)) (jn (σ:=Int×Int×W7×W7) (λ(m,n,o,p)q=>J (σ:=Int×Int×Bool×W7×W7) (λ(r,s,u,v,w)=>ifB u (ja (jw v.length s) λy=>ja (atL v y) λz=>ja (apO 8 w [z]) λF=>ja (some (w64 (s+1))) λG=>q (r,G,v,F)) (ja (apO 8 w [r]) λH=>jn (σ:=Int×W7×W7) (λ(B,A,C)I=>ifB (decide (B<(A.length:Int))) (ja (jw A.length B) λK=>ja (atL A K) λb8=>ja (apO 8 C [b8]) λL=>ja (some (w64 (B+1))) λc0=>I (c0,A,L)) (i (b,c,C))) t ((w.length:Int),v,H))) λx=>ja (some (decide (n<(o.length:Int)))) λM=>ifB M (ja (jw o.length n) λN=>ja (atL o N) λO=>x (m,n,decide (O<m),o,p)) (x (m,n,false,o,p))) t (k,0,d,[]))) (some d)) t (E,0,a)
def zzg:=lk (α:=HK) [(58,me [vl 1,vo 5 0,vi 6] [.row 3 I6] 1),(932,me [vl 1,vo 5 0,vi 6] [.row 3 I6] 1)]
def zoz:=lk (α:=HK) [(122,me [vo 0 0,vi 1,vo 5 1,vi 6] [.row 3 I6,.row 3 I6] 2),(976,me [vo 0 0,vi 1,vo 5 1,vi 6,vb 25] [.row 3 I6,.row 3 I6] 2),(1018,me [vo 0 0,vo 5 1,vi 8] [.row 3 I6,.row 3 I6] 2)]
theorem zgj(a:Nat):FFOk 207 ⟨[L6,L6],3,I6,λt=>Qh a (t.1) (t.2)⟩:=mk2 func207 a 9 [(0,[14]),(1,[17,27,47])] [(1,[(13,.own I6),(33,.told I6),(39,.told I6),(53,.told I6)])] [] [65] (itc 3250153 func153 zoz 1 [] itn (by kernel_rfl)) zzg rn (gc (zk6 a) gn) (tc (Qy a) tn) (by kernel_rfl) λt=>by kernel_rfl
abbrev zlh:=Qh
theorem zrb(a:Nat):jv 207 ⟨[L6,L6],L6,λt=>Qh a (t.1) (t.2)⟩:=(zgj a).pure
def Q5(t:Nat)(K:jb):Option W4:=ja (yj t K) λa=>ifB (!a) (some []) (ja (yn t K) λb=>jn (σ:=W8×Int×jb×W4) (λ(c,d,e,f)g=>ifB (decide (d<(e.2.1.length:Int))) (ja (apO 24 f [[]]) λh=>ja (some (w64 (d+1))) λi=>g (c,i,e,h)) (ja (jw f.length e.2.2.2.1) λj=>ja (yz f j [(e.1.length:Int)]) λk=>J (λ(l:W4)=>some l) λm=>jn (σ:=W8×Int×jb×W4) (λ(n,o,p,q)r=>ifB (decide (o<=(w64 ((p.2.1.length:Int)*(w64 ((p.1.length:Int)+1)))))) (jn (σ:=W8×Int×Bool×Int×jb×W4) (λ(s,u,v,w,x,y)z=>ifB (decide (w<(x.2.2.1.length:Int))) (ja (atL x.2.2.1 w) λb0=>jn (σ:=W8×Int×Bool×Int×Int×jb×W4×jh) (λ(L,Q,R,S,M,T,U,b8)b9=>J (σ:=W8×Int×Bool×Int×Int×Bool×jb×W4×jh) (λ(c0,F,G,H,D,c5,E,A,B)=>ifB c5 (J (σ:=W8×Int×Bool×Int×Int×jb×W4×jh) (λ(d0,d1,d2,d3,d4,d5,d6,d7)=>ja (some (w64 (d4+1))) λd9=>b9 (d0,d1,d2,d3,d9,d5,d6,d7)) λW=>ja (atL B.2.1 D) λN=>ifB (!N.1) (W (c0,F,G,H,D,E,A,B)) (ja (zag t E B D) λO=>J (σ:=W8×Int×Bool×Int×Int×W7×jb×W4×jh×ji) (λ(X,Y,e4,Z,e6,e7,e8,C,f0,I)=>ja (jw C.length I.2.1) λf3=>ja (atL C f3) λf4=>ja (Qh t e7 f4) λP=>J (σ:=W8×Int×Bool×Int×Int×W7×jb×W4×jh×ji) (λ(f6,f7,f8,f9,g0,g1,g2,g3,g4,g5)=>ja (jw g3.length g5.2.1) λg7=>ja (yz g3 g7 g1) λg8=>W (f6,f7,f8,f9,g0,g2,g8,g4)) λg6=>ifB e4 (g6 (X,Y,true,Z,e6,P,e8,C,f0,I)) (ja (jw C.length I.2.1) λg9=>ja (atL C g9) λh0=>g6 (X,Y,decide ((h0.length:Int)<(P.length:Int)),Z,e6,P,e8,C,f0,I))) λf2=>ifB O.2.1 (ja (jw A.length B.1) λh1=>ja (atL A h1) λh2=>ja (Qh t O.1 h2) λh3=>f2 (c0,F,G,H,D,h3,E,A,B,N)) (f2 (c0,F,G,H,D,O.1,E,A,B,N)))) (ja (some (w64 (H+1))) λh4=>z (c0,F,G,h4,E,A))) λV=>ja (atL L b8.1) λh5=>ifB h5 (V (L,Q,R,S,M,decide (M<(b8.2.1.length:Int)),T,U,b8)) (V (L,Q,R,S,M,false,T,U,b8))) t (s,u,v,w,0,x,y,b0)) (ifB (!v) (m y) (ja (some (w64 (u+1))) λh6=>r (s,h6,x,y)))) t (n,o,false,0,p,q)) (m q)) t (c,0,e,k))) t (b,0,K,[]))
def z6s:=lk (α:=HK) [(250,me [vp 1 0,vo 3 1,(4,.v LB),vi 5] [.box 26 [.v jc],.row 31 L6] 2),(509,me [vo 3 0] [.row 31 L6] 1),(1018,me [vp 1 0,vo 3 1,(4,.v LB),vi 6] [.box 26 [.v jc],.row 31 L6] 2),(260682,me [vp 1 0,vo 3 1,(4,.v LB),vi 6,vb 7,vi 8] [.box 26 [.v jc],.row 31 L6] 2),(33367334,me [vp 1 0,vo 3 1,(4,.v LB),vi 6,vb 7,vi 8,vp 9 2,vi 10] [.box 26 [.v jc],.row 31 L6,.box 68 [.v js]] 3),(266938672,me [vp 1 0,vo 3 1,(4,.v LB),vi 6,vb 7,vi 8,vp 9 2,vi 10,vb 75] [.box 26 [.v jc],.row 31 L6,.box 68 [.v js]] 3),(266938674,me [vp 1 0,vo 3 1,(4,.v LB),vi 6,vb 7,vi 8,vp 9 2,vi 10] [.box 26 [.v jc],.row 31 L6,.box 68 [.v js]] 3),(4271018791,me [vp 1 0,vo 3 1,(4,.v LB),vi 6,vb 7,vi 8,vp 9 2,vi 10,vp 11 3,vl 12] [.box 26 [.v jc],.row 31 L6,.box 68 [.v js],.box 65 [.v jt]] 4),(34168150334,me [vp 1 0,vo 3 1,(4,.v LB),vi 6,vb 7,vi 8,vp 9 2,vi 10,vp 11 3,vl 12] [.box 26 [.v jc],.row 31 L6,.box 68 [.v js],.box 65 [.v jt]] 4)]
theorem zvz(a:Nat):jv 208 ⟨[jc],M6,λt=>Q5 a t⟩:=mk1 func208 a 0 [(0,[27,51,58,77])] [(0,[(14,.own L6),(29,.told I6),(30,.told L6),(38,.own I6)])] [(584,[(38,L6)])] [] itn z6s rn gn (tc (zeg a) (tc (yp a) (tc (zrb a) (tc (zoh a) tn)))) (by kernel_rfl) λt=>by kernel_rfl
def Vj(s:Nat)(q:jb)(r:Int):Option W7:=J (σ:=Int×Bool×jb) (λ(a,b,c)=>ifB b (some []) (ja (atL c.2.2.1 a) λe=>ja (zym s c e.2.1) λf=>J (λ(g:W7)=>some g) λh=>ja (atL c.2.2.1 a) λi=>ja (zah s c i.2.1) λj=>ifB j (ja (Q5 s c) λk=>ja (atL c.2.2.1 a) λl=>ja (atL k l.1) λm=>ja (zlh s f m) λn=>h n) (h f))) λd=>ja (yj s q) λo=>ja (some (!o)) λp=>ifB p (d (r,true,q)) (ifB (decide (r<0)) (d (r,true,q)) (d (r,decide ((q.2.2.1.length:Int)<=r),q)))
def ztq:=lk (α:=HK) [(12,me [vi 1,vp 2 0,vb 19] [.box 26 [.v jc]] 1),(15,me [vo 5 0] [.row 3 I6] 1)]
theorem zlm(a:Nat):FFOk 154 ⟨[jc,I6],3,I6,λt=>Vj a (t.1) (t.2)⟩:=mk2 func154 a 0 [(0,[8])] [(0,[(20,.own I6)])] [] [199,331] itn ztq rn (gc (zk9 a) (gc (zgj a) gn)) (tc (yp a) (tc (zh6 a) (tc (zvz a) tn))) (by kernel_rfl) λt=>by kernel_rfl
theorem zlu(a:Nat):jv 154 ⟨[jc,I6],L6,λt=>Vj a (t.1) (t.2)⟩:=(zlm a).pure
def J8(h:Nat)(i:jb):Option W4:=jn (σ:=Int×jb×W4) (λ(a,b,c)d=>ifB (decide (a<(b.2.2.1.length:Int))) (ja (Vj h b a) λe=>ja (apO 24 c [e]) λf=>ja (some (w64 (a+1))) λg=>d (g,b,f)) (some c)) h (0,i,[])
def zol:=lk (α:=HK) [(58,me [vp 1 0,vo 3 1,vi 4] [.box 26 [.v jc],.row 31 L6] 2)]
theorem zcp(a:Nat):jv 94 ⟨[jc],M6,λt=>J8 a t⟩:=mk1 func94 a 0 [(0,[12])] [(0,[(5,.own L6),(17,.told L6)])] [] [] itn zol rn gn (tc (zlu a) tn) (by kernel_rfl) λt=>by kernel_rfl
def Js(t:Nat)(A:jb)(B:W4)(C:Int)(D:Int):Option W7:=jn (σ:=W4×Int×Int×Int×jb×W7) (λ(a,b,c,d,e,f)g=>ifB (decide (d<(e.2.2.1.length:Int))) (J (σ:=W4×Int×Int×Int×jb×W7) (λ(h,i,j,k,l,m)=>ja (some (w64 (k+1))) λo=>g (h,i,j,o,l,m)) λn=>J (σ:=W4×Int×Int×Int×Bool×jb×W7) (λ(p,q,r,s,u,v,w)=>ifB u (ja (apO 8 w [s]) λy=>n (p,q,r,s,v,y)) (n (p,q,r,s,v,w))) λx=>ja (atL e.2.2.1 d) λz=>ja (some (decide (z.1=b))) λE=>ifB E (ja (atL a d) λF=>ja (Qb t F c) λG=>x (a,b,c,d,G,e,f)) (x (a,b,c,d,false,e,f))) (some f)) t (B,C,D,0,A,[])
def zpf:=lk (α:=HK) [(58,me [(1,.v M6),vi 2,vi 3,vp 4 0,vo 9 1,vi 10] [.box 26 [.v jc],.row 3 I6] 2),(466,me [(1,.v M6),vi 2,vi 3,vp 4 0,vo 9 1,vi 10] [.box 26 [.v jc],.row 3 I6] 2),(1864,me [(1,.v M6),vi 2,vi 3,vp 4 0,vo 9 1,vi 10,vb 34] [.box 26 [.v jc],.row 3 I6] 2)]
theorem zks(a:Nat):FFOk 95 ⟨[jc,M6,I6,I6],3,I6,λt=>Js a (t.1) (t.2.1) (t.2.2.1) (t.2.2.2)⟩:=mk2 func95 a 0 [(0,[18,26])] [(0,[(11,.own I6),(37,.told I6)])] [] [] itn zpf rn gn (tc (Qy a) tn) (by kernel_rfl) λt=>by kernel_rfl
theorem zdm(a:Nat):jv 95 ⟨[jc,M6,I6,I6],L6,λt=>Js a (t.1) (t.2.1) (t.2.2.1) (t.2.2.2)⟩:=(zks a).pure
def Qn(r:Nat)(s:jb):Option (jd×Int×Unit):=ja (yj r s) λa=>ifB (!a) (some ((0,0,0,()),(-1),())) (ja (J8 r s) λb=>jn (σ:=W4×Int×jb×jd) (λ(c,d,e,f)g=>ifB (decide (d<(e.2.1.length:Int))) (jn (σ:=W4×Int×Int×jb×jd) (λ(h,i,j,k,l)m=>ifB (decide (j<=(k.1.length:Int))) (ja (Js r k h i j) λn=>ifB (decide (1<(n.length:Int))) (ja (atL n 1) λo=>some ((15,i,j,()),o,())) (ja (some (w64 (j+1))) λp=>m (h,i,p,k,l))) (ja (some (w64 (i+1))) λq=>g (h,q,k,l))) r (c,d,0,e,f)) (some ((0,0,0,()),(-1),()))) r (b,0,s,(0,0,0,())))
def zze:=lk (α:=HK) [(122,me [vp 1 0,vp 2 1,(4,.v M6),vi 5] [.box 26 [.v jc],.box 36 [.v jj]] 2),(7826,me [vp 1 0,vp 2 1,(4,.v M6),vi 5,vi 6] [.box 26 [.v jc],.box 36 [.v jj]] 2)]
theorem zg1(a:Nat):jv 78 ⟨[jc],(.tup (.cons jj (.cons I6 .nil))),λt=>Qn a t⟩:=mk1 func78 a 0 [(0,[20,27])] [] [] [] itn zze rn gn (tc (yp a) (tc (zcp a) (tc (zdm a) tn))) (by kernel_rfl) λt=>by kernel_rfl
def Vb(t:Nat)(A:jb):Option jd:=ja (Zv t A) λa=>ifB (decide (¬a.1=0)) (some a) (jn (σ:=Int×jb×jd) (λ(b,c,d)e=>ifB (decide (b<(c.1.length:Int))) (ja (atL c.1 b) λf=>ja (zdt t f.2.1 []) λg=>ifB g (some (10,b,0,())) (ja (some (w64 (b+1))) λh=>e (h,c,d))) (ja (yn t c) λi=>ja (Vt t c) λj=>jn (σ:=W8×W8×Int×jb×jd) (λ(k,l,m,n,o)p=>ifB (decide (m<(n.2.1.length:Int))) (ja (atL k m) λq=>ifB (!q) (some (13,m,0,())) (ja (some (w64 (m+1))) λr=>p (k,l,r,n,o))) (jn (σ:=W8×Int×jb×jd) (λ(s,u,v,w)x=>ifB (decide (u<(v.2.1.length:Int))) (ja (atL s u) λy=>ifB (!y) (some (14,u,0,())) (ja (some (w64 (u+1))) λz=>x (s,z,v,w))) (ja (Qn t v) λB=>some B.1)) t (l,0,n,o))) t (i,j,0,c,d))) t (0,A,(0,0,0,())))
def z5o:=lk (α:=HK) [(58,me [vp 1 0,vp 2 1,vi 4] [.box 26 [.v jc],.box 36 [.v jj]] 2),(250,me [vp 1 0,vp 2 1,(5,.v LB),(6,.v LB),vi 7] [.box 26 [.v jc],.box 36 [.v jj]] 2),(506,me [vp 1 0,vp 2 1,(6,.v LB),vi 8] [.box 26 [.v jc],.box 36 [.v jj]] 2)]
theorem zse(a:Nat):jv 30 ⟨[jc],jj,λt=>Vb a t⟩:=mk1 func30 a 0 [(0,[23,43,57])] [] [] [] itn z5o rn gn (tc (zg0 a) (tc (zs4 a) (tc (zeg a) (tc (zps a) (tc (zg1 a) tn))))) (by kernel_rfl) λt=>by kernel_rfl
def Yv(o:Nat)(n:(List jf)):Option W6:=ja (Jq o n) λa=>ifB (decide (¬a=0)) (some []) (jn (σ:=(List jf)×Int×W6) (λ(b,c,d)e=>ifB (decide (c<(b.length:Int))) (J (σ:=(List jf)×Int×W6) (λ(f,g,h)=>ja (some (w64 (g+1))) λj=>e (f,j,h)) λi=>ja (atL b c) λk=>ifB (decide (k.1=1)) (ja (atL b c) λl=>ja (apO 32 d [l.2.1]) λm=>i (b,c,m)) (i (b,c,d))) (some d)) o (n,0,[]))
def z2v:=lk (α:=HK) [(122,me [(0,.v (.sl jl)),vo 3 0,vi 4] [.row 125 (.arr 4 (.int .u64))] 1),(978,me [(0,.v (.sl jl)),vo 3 0,vi 4] [.row 125 (.arr 4 (.int .u64))] 1)]
theorem zs5(a:Nat):FFOk 86 ⟨[(.sl jl)],125,(.arr 4 (.int .u64)),λt=>Yv a t⟩:=mk2 func86 a 0 [(0,[15])] [(0,[(5,.own (.arr 4 (.int .u64))),(28,.told (.arr 4 (.int .u64)))])] [] [] itn z2v rn gn (tc (Q1 a) tn) (by kernel_rfl) λt=>by kernel_rfl
theorem zin(a:Nat):jv 86 ⟨[(.sl jl)],(.sl (.arr 4 (.int .u64))),λt=>Yv a t⟩:=(zs5 a).pure
def zay(p:Nat)(n:(List jf))(o:Int):Option Int:=jn (σ:=(List jf)×Int×Int×Int) (λ(a,b,c,d)e=>ifB (decide (d<b)) (J (σ:=(List jf)×Int×Int×Int) (λ(f,g,h,i)=>ja (some (w64 (i+1))) λk=>e (f,g,h,k)) λj=>ja (atL a d) λl=>ifB (decide (l.1=1)) (ja (some (w64 (c+1))) λm=>j (a,b,m,d)) (j (a,b,c,d))) (some c)) p (n,o,0,0)
def zyg:=lk (α:=HK) [(58,me [(0,.v (.sl jl)),vi 1,vi 5,vi 6] [] 0),(466,me [(0,.v (.sl jl)),vi 1,vi 5,vi 6] [] 0)]
theorem zoj(a:Nat):jv 201 ⟨[(.sl jl),I6],I6,λt=>zay a (t.1) (t.2)⟩:=mk1 func201 a 0 [(0,[11,19])] [] [] [] itn zyg rn gn tn (by kernel_rfl) λt=>by kernel_rfl
def Zg(q:Nat)(rec:((List jf)×Int)->Option Int)(p:(List jf))(o:Int):Option Int:=J (σ:=(List jf)×Int×Bool) (λ(a,b,c)=>ifB c (some (-1)) (ja (atL a b) λe=>ja (Qp q e.1) λf=>jn (σ:=(List jf)×Int×Int×Int) (λ(g,h,i,j)k=>ifB (decide (j<h)) (ja (rec (g,(w64 (i-1)))) λl=>ifB (decide (l<0)) (some (-1)) (ja (some (w64 (j+1))) λm=>k (g,h,l,m))) (ifB (decide (h<0)) (some (-1)) (some i))) q (a,f,b,0))) λd=>ja (some (decide (o<0))) λn=>ifB n (d (p,o,true)) (d (p,o,decide ((p.length:Int)<=o)))
def qx(a:Nat):Nat->DL [(.sl jl),I6]->Option (Ty.D I6)
 |0,_=>none
 |m+1,t=>Zg a (qx a m) (t.1) (t.2)
def Vq(a:Nat)(b:(List jf))(c:Int):Option Int:=qx a a (b,c)
def zyq:=lk (α:=HK) [(12,me [(0,.v (.sl jl)),vi 1,vb 15] [] 0),(250,me [(0,.v (.sl jl)),vi 5,vi 6,vi 7] [] 0)]
theorem zo7(a:Nat):∀m,jv 202 ⟨[(.sl jl),I6],I6,qx a m⟩:=mk3 (ats:=[(.sl jl),I6]) (rt:=I6) (b:=λrec t=>Zg a rec (t.1) (t.2)) (q:=qx a) func202 a 0 [(0,[9,27])] [] [] [] itn zyq rn gn (λrec h=>tc h (tc (zf6 a) tn)) (by kernel_rfl) (λrec t=>by kernel_rfl) (λ_=>rfl) λ_ _=>rfl
theorem zbj(a:Nat):jv 202 ⟨[(.sl jl),I6],I6,qx a a⟩:=zo7 a a
def y4(q:Nat)(rec:((List jf)×Int)->Option Bool)(o:(List jf))(p:Int):Option Bool:=ja (atL o p) λa=>ifB (decide (a.1=1)) (some false) (J (σ:=(List jf)×Int×Int×Bool) (λ(b,c,d,e)=>ifB e (some true) (ja (rec (b,(w64 (c-1)))) λg=>ifB (decide (d=6)) (some g) (ja (Vq q b (w64 (c-1))) λh=>ja (rec (b,(w64 (h-1)))) λi=>ifB (decide (d=3)) (J (λ(j:Bool)=>some j) λk=>ifB i (k g) (k false)) (J (λ(l:Bool)=>some l) λm=>ifB i (m true) (m g))))) λf=>ja (some (decide (a.1=2))) λn=>ifB n (f (o,p,a.1,true)) (ifB (decide (a.1=5)) (f (o,p,a.1,true)) (f (o,p,a.1,decide (a.1=7)))))
def zr(a:Nat):Nat->DL [(.sl jl),I6]->Option (Ty.D .bool)
 |0,_=>none
 |m+1,t=>y4 a (zr a m) (t.1) (t.2)
def zhe(a:Nat)(b:(List jf))(c:Int):Option Bool:=zr a a (b,c)
def z3n:=lk (α:=HK) [(60,me [(0,.v (.sl jl)),vi 1,vi 5,vb 24] [] 0),(1022,me [vb 4] [] 0),(4084,me [vb 4] [] 0)]
theorem zss(a:Nat):∀m,jv 203 ⟨[(.sl jl),I6],.bool,zr a m⟩:=mk3 (ats:=[(.sl jl),I6]) (rt :=.bool) (b:=λrec t=>y4 a rec (t.1) (t.2)) (q:=zr a) func203 a 0 [(0,[16])] [] [] [] itn z3n rn gn (λrec h=>tc h (tc (zbj a) tn)) (by kernel_rfl) (λrec t=>by kernel_rfl) (λ_=>rfl) λ_ _=>rfl
theorem ztd(a:Nat):jv 203 ⟨[(.sl jl),I6],.bool,zr a a⟩:=zss a a
def Qa(B:Nat)(rec:((List jf)×Int×Bool)->Option W7)(t:(List jf))(A:Int)(C:Bool):Option W7:=ja (atL t A) λa=>ifB (decide (a.1=1)) (ja (zay B t A) λb=>some [b]) (ifB (decide (a.1=2)) (some []) (ja (rec (t,(w64 (A-1)),C)) λc=>J (σ:=(List jf)×Int×Bool×Int×Bool×W7) (λ(d,e,f,g,h,i)=>ifB h (some i) (ja (Vq B d (w64 (e-1))) λk=>ja (some (w64 (k-1))) λl=>ja (rec (d,l,f)) λm=>J (σ:=(List jf)×Bool×Int×Int×Bool×W7×W7) (λ(n,o,p,q,r,s,u)=>ifB r (some s) (J (σ:=Bool×W7×W7) (λ(w,x,y)=>ifB w (some y) (ja (apO 8 y x) λD=>some D)) λz=>ja (some (decide (p=3))) λE=>ifB E (ifB (!o) (ja (zhe B n q) λF=>z (!F,s,u)) (z (false,s,u))) (z (false,s,u)))) λv=>ja (some (decide (g=3))) λG=>ifB G (ifB f (ja (zhe B d (w64 (e-1))) λH=>v (d,f,g,l,!H,i,m)) (v (d,f,g,l,false,i,m))) (v (d,f,g,l,false,i,m)))) λj=>ja (some (decide (¬a.1=3))) λI=>ifB I (j (t,A,C,a.1,decide (¬a.1=4),c)) (j (t,A,C,a.1,false,c))))
def vg(a:Nat):Nat->DL [(.sl jl),I6,.bool]->Option (Ty.D L6)
 |0,_=>none
 |m+1,t=>Qa a (vg a m) (t.1) (t.2.1) (t.2.2)
def vj(a:Nat)(b:(List jf))(c:Int)(d:Bool):Option W7:=vg a a (b,c,d)
def z4w:=lk (α:=HK) [(252,me [(0,.v (.sl jl)),vi 1,vb 2,vi 7,vo 8 0,vb 35] [.row 3 I6] 1),(2044,me [(0,.v (.sl jl)),vb 2,vi 7,vo 8 0,vi 9,vo 10 1,vb 57] [.row 3 I6,.row 3 I6] 2),(4092,me [vo 8 0,vo 10 1,vb 70] [.row 3 I6,.row 3 I6] 2)]
theorem zt7(a:Nat):∀m,FFOk 151 ⟨[(.sl jl),I6,.bool],3,I6,vg a m⟩:=mk4 (ats:=[(.sl jl),I6,.bool]) (e:=3) (rt:=I6) (b:=λrec t=>Qa a rec (t.1) (t.2.1) (t.2.2)) (q:=vg a) func151 a 0 [(0,[31,41,47,60])] [(0,[(21,.own I6),(24,.own I6)])] [] [388,643] itn z4w rn (λrec h=>gc h gn) (tc (zoj a) (tc (zbj a) (tc (ztd a) tn))) (by kernel_rfl) (λrec t=>by kernel_rfl) (λ_=>rfl) λ_ _=>rfl
theorem zdh(a:Nat):FFOk 151 ⟨[(.sl jl),I6,.bool],3,I6,vg a a⟩:=zt7 a a
abbrev zoy:=vj
theorem zr9(a:Nat):jv 151 ⟨[(.sl jl),I6,.bool],L6,vg a a⟩:=(zdh a).pure
def zav(d:Nat)(c:(List jf)):Option W7:=ja (Jq d c) λa=>ifB (decide (¬a=0)) (some []) (ja (zoy d c (w64 ((c.length:Int)-1)) true) λb=>some b)
theorem zso(a:Nat):FFOk 87 ⟨[(.sl jl)],3,I6,λt=>zav a t⟩:=mk2 func87 a 0 [] [(0,[(6,.own I6)])] [] [196] itn h0 rn (gc (zdh a) gn) (tc (Q1 a) tn) (by kernel_rfl) λt=>by kernel_rfl
theorem zsx(a:Nat):jv 87 ⟨[(.sl jl)],L6,λt=>zav a t⟩:=(zso a).pure
def vq(i:Nat)(g:W7)(h:Int):Option Bool:=jn (σ:=W7×Int×Int) (λ(a,b,c)d=>ifB (decide (c<(a.length:Int))) (ja (atL a c) λe=>ifB (decide (e=b)) (some true) (ja (some (w64 (c+1))) λf=>d (a,b,f))) (some false)) i (g,h,0)
def z8c:=lk (α:=HK) [(26,me [vl 0,vi 1,vi 5] [] 0)]
theorem zxx(a:Nat):jv 204 ⟨[L6,I6],.bool,λt=>vq a (t.1) (t.2)⟩:=mk1 func204 a 0 [(0,[11])] [] [] [] itn z8c rn gn tn (by kernel_rfl) λt=>by kernel_rfl
def Zx(t:Nat)(F:(List jf))(G:Int)(H:Int):Option Bool:=jn (σ:=(List jf)×Int×Int×Int) (λ(a,b,c,d)e=>ifB (decide (d<(a.length:Int))) (J (σ:=(List jf)×Int×Int×Int) (λ(f,g,h,i)=>ja (some (w64 (i+1))) λk=>e (f,g,h,k)) λj=>ja (atL a d) λl=>J (σ:=(List jf)×Int×Int×Int×Int) (λ(m,n,o,p,q)=>ifB (decide (q=3)) (ja (Vq t m (w64 (p-1))) λs=>J (σ:=(List jf)×Int×Int×Int×Bool) (λ(u,v,w,x,y)=>ifB y (some true) (j (u,v,w,x))) λz=>ja (vj t m (w64 (s-1)) true) λI=>ja (vq t I n) λK=>ifB K (ja (vj t m (w64 (p-1)) false) λL=>ja (vq t L o) λM=>z (m,n,o,p,M)) (z (m,n,o,p,false))) (j (m,n,o,p))) λr=>J (σ:=(List jf)×Int×Int×Int×Int×Bool) (λ(A,C,D,B,b8,N)=>ifB N (J (σ:=(List jf)×Int×Int×Int×Int×Bool) (λ(O,P,Q,R,S,T)=>ifB T (some true) (r (O,P,Q,R,S))) λE=>ja (vj t A (w64 (B-1)) true) λU=>ja (vq t U C) λV=>ifB V (ja (vj t A (w64 (B-1)) false) λW=>ja (vq t W D) λX=>E (A,C,D,B,b8,X)) (E (A,C,D,B,b8,false))) (r (A,C,D,B,b8))) λc0=>ja (some (decide (l.1=5))) λY=>ifB Y (c0 (a,b,c,d,l.1,true)) (c0 (a,b,c,d,l.1,decide (l.1=6)))) (some false)) t (F,G,H,0)
def ztb:=lk (α:=HK) [(26,me [(0,.v (.sl jl)),vi 1,vi 2,vi 7] [] 0),(210,me [(0,.v (.sl jl)),vi 1,vi 2,vi 7] [] 0),(841,me [(0,.v (.sl jl)),vi 1,vi 2,vi 7,vi 8] [] 0),(3364,me [(0,.v (.sl jl)),vi 1,vi 2,vi 7,vi 8,vb 26] [] 0),(13460,me [(0,.v (.sl jl)),vi 1,vi 2,vi 7,vi 8,vb 40] [] 0),(26938,me [(0,.v (.sl jl)),vi 1,vi 2,vi 7,vb 60] [] 0)]
theorem zme(a:Nat):jv 152 ⟨[(.sl jl),I6,I6],.bool,λt=>Zx a (t.1) (t.2.1) (t.2.2)⟩:=mk1 func152 a 0 [(0,[15,22])] [] [] [] itn ztb rn gn (tc (zr9 a) (tc (zbj a) (tc (zxx a) tn))) (by kernel_rfl) λt=>by kernel_rfl
def V5(t:Nat)(A:(List jf))(B:Int):Option W7:=ja (Yv t A) λa=>ja (some (a.length:Int)) λb=>jn (σ:=(List jf)×Int×Int×Int×W7) (λ(c,d,e,f,g)h=>ifB (decide (f<e)) (J (σ:=(List jf)×Int×Int×Int×W7) (λ(i,j,k,l,m)=>ja (some (w64 (l+1))) λo=>h (i,j,k,o,m)) λn=>J (σ:=(List jf)×Int×Int×Int×Bool×W7) (λ(p,q,r,s,u,v)=>ifB u (ja (apO 8 v [s]) λx=>n (p,q,r,s,x)) (n (p,q,r,s,v))) λw=>ja (some (decide (0<=d))) λy=>ifB y (ifB (decide (d<e)) (ja (Zx t c d f) λz=>w (c,d,e,f,z,g)) (w (c,d,e,f,false,g))) (w (c,d,e,f,false,g))) (some g)) t (A,B,b,0,[])
def zxq:=lk (α:=HK) [(122,me [(0,.v (.sl jl)),vi 1,vo 5 0,vi 6,vi 7] [.row 3 I6] 1),(978,me [(0,.v (.sl jl)),vi 1,vo 5 0,vi 6,vi 7] [.row 3 I6] 1),(3912,me [(0,.v (.sl jl)),vi 1,vo 5 0,vi 6,vi 7,vb 29] [.row 3 I6] 1)]
theorem zn3(a:Nat):FFOk 89 ⟨[(.sl jl),I6],3,I6,λt=>V5 a (t.1) (t.2)⟩:=mk2 func89 a 0 [(0,[11,16,18])] [(0,[(8,.own I6),(32,.told I6)])] [] [] itn zxq rn gn (tc (zin a) (tc (zme a) tn)) (by kernel_rfl) λt=>by kernel_rfl
theorem zmm(a:Nat):jv 89 ⟨[(.sl jl),I6],L6,λt=>V5 a (t.1) (t.2)⟩:=(zn3 a).pure
def Vp(k:Nat)(i:W7)(j:Int):Option W7:=jn (σ:=W7×Int×Int×W7) (λ(a,b,c,d)e=>ifB (decide (c<(a.length:Int))) (ja (atL a c) λf=>ja (apO 8 d [w64 (f+b)]) λg=>ja (some (w64 (c+1))) λh=>e (a,b,h,g)) (some d)) k (i,j,0,[])
def zy4:=lk (α:=HK) [(58,me [vl 0,vi 1,vo 5 0,vi 6] [.row 3 I6] 1)]
theorem zpi(a:Nat):FFOk 88 ⟨[L6,I6],3,I6,λt=>Vp a (t.1) (t.2)⟩:=mk2 func88 a 0 [(0,[13])] [(0,[(7,.own I6),(21,.told I6)])] [] [] itn zy4 rn gn tn (by kernel_rfl) λt=>by kernel_rfl
theorem zpk(a:Nat):jv 88 ⟨[L6,I6],L6,λt=>Vp a (t.1) (t.2)⟩:=(zpi a).pure
def Zs(d:Nat)(c:(List jf)):Option W7:=ja (Jq d c) λa=>ifB (decide (¬a=0)) (some []) (ja (zoy d c (w64 ((c.length:Int)-1)) false) λb=>some b)
theorem zpy(a:Nat):FFOk 90 ⟨[(.sl jl)],3,I6,λt=>Zs a t⟩:=mk2 func90 a 0 [] [(0,[(6,.own I6)])] [] [196] itn h0 rn (gc (zdh a) gn) (tc (Q1 a) tn) (by kernel_rfl) λt=>by kernel_rfl
theorem zo4(a:Nat):jv 90 ⟨[(.sl jl)],L6,λt=>Zs a t⟩:=(zpy a).pure
def zaw(t:Nat)(I:(List qe)):Option jk:=jn (σ:=(List qe)×Int×W6×W7×W8×W4×W7×W6×W7×W8×W4×W7) (λ(a,b,c,d,e,f,g,h,i,j,k,l)m=>ifB (decide (b<(a.length:Int))) (ja (some (h.length:Int)) λn=>ja (atL a b) λo=>ja (Yv t o.2.1) λp=>ja (atL a b) λq=>ja (zav t q.2.1) λr=>jn (σ:=(List qe)×Int×Int×W6×W7×Int×W6×W7×W8×W4×W7×W6×W7×W8×W4×W7) (λ(s,u,v,w,x,y,z,A,B,C,D,E,F,G,H,b8)K=>ifB (decide (y<(w.length:Int))) (ja (atL w y) λc0=>ja (apO 32 E [c0]) λL=>ja (apO 8 F [u]) λM=>ja (Qb t x y) λN=>ja (apO 1 G [N]) λO=>ja (atL s u) λP=>ja (V5 t P.2.1 y) λQ=>ja (Vp t Q v) λR=>ja (apO 24 H [R]) λS=>ja (some (w64 (y+1))) λT=>K (s,u,v,w,x,T,z,A,B,C,D,L,M,O,S,b8)) (ja (atL s u) λU=>ja (Zs t U.2.1) λV=>ja (Vp t V v) λW=>ja (apO 8 b8 W) λX=>ja (some (w64 (u+1))) λY=>m (s,Y,z,A,B,C,D,E,F,G,H,X))) t (a,b,n,p,r,0,c,d,e,f,g,h,i,j,k,l)) (some (h,i,j,k,l,()))) t (I,0,[],[],[],[],[],[],[],[],[],[])
def z3t:=lk (α:=HK) [(58,me [(0,.v (.sl ve)),vp 2 0,vp 3 1,vi 4] [.box 84 [.own 2,.own 3,.own 4,.own 5,.own 6],.box 84 [.own 7,.own 8,.own 9,.own 10,.own 11],.row 125 (.arr 4 (.int .u64)),.row 3 I6,.row 4 .bool,.row 31 L6,.row 3 I6,.row 125 (.arr 4 (.int .u64)),.row 3 I6,.row 4 .bool,.row 31 L6,.row 3 I6] 12),(59706,me [(0,.v (.sl ve)),vp 2 0,vp 3 1,vi 4,vi 5,(6,.v (.sl (.arr 4 (.int .u64)))),vl 7,vi 8] [.box 84 [.own 2,.own 3,.own 4,.own 5,.own 6],.box 84 [.own 7,.own 8,.own 9,.own 10,.own 11],.row 125 (.arr 4 (.int .u64)),.row 3 I6,.row 4 .bool,.row 31 L6,.row 3 I6,.row 125 (.arr 4 (.int .u64)),.row 3 I6,.row 4 .bool,.row 31 L6,.row 3 I6] 12)]
theorem zt8(a:Nat):jv 32 ⟨[(.sl ve)],ju,λt=>zaw a t⟩:=mk1 func32 a 0 [(0,[15,18,36])] [(0,[(43,.told (.arr 4 (.int .u64))),(49,.told I6),(57,.told .bool),(71,.told L6)])] [] [] itn z3t rn gn (tc (Qy a) (tc (zin a) (tc (zsx a) (tc (zpk a) (tc (zmm a) (tc (zo4 a) tn)))))) (by kernel_rfl) λt=>by kernel_rfl
def zch(h:Nat)(g:W7):Option Bool:=jn (σ:=W7×Int) (λ(a,b)c=>ifB (decide (b<(a.length:Int))) (ja (atL a (w64 (b-1))) λd=>ja (atL a b) λe=>ifB (decide (e<=d)) (some false) (ja (some (w64 (b+1))) λf=>c (a,f))) (some true)) h (g,1)
def zzr:=lk (α:=HK) [(26,me [vl 0,vi 3] [] 0)]
theorem zqb(a:Nat):jv 198 ⟨[L6],.bool,λt=>zch a t⟩:=mk1 func198 a 0 [(0,[9])] [] [] [] itn zzr rn gn tn (by kernel_rfl) λt=>by kernel_rfl
def Zl(o:Nat)(p:jk)(q:W7):Option Bool:=jn (σ:=W7×Int×jk) (λ(a,b,c)d=>ifB (decide (b<(a.length:Int))) (J (σ:=W7×Int×Bool×jk) (λ(e,f,g,h)=>ifB g (some false) (ja (some (w64 (f+1))) λj=>d (e,j,h))) λi=>ja (atL a b) λk=>ja (some (decide (k<0))) λl=>ifB l (i (a,b,true,c)) (ja (atL a b) λm=>i (a,b,decide ((c.1.length:Int)<=m),c))) (ja (zch o a) λn=>some n)) o (q,0,p)
def zz8:=lk (α:=HK) [(26,me [vl 1,vp 2 0,vi 5] [.box 84 [.v ju]] 1),(840,me [vl 1,vp 2 0,vi 5,vb 26] [.box 84 [.v ju]] 1)]
theorem zo0(a:Nat):jv 147 ⟨[ju,L6],.bool,λt=>Zl a (t.1) (t.2)⟩:=mk1 func147 a 0 [(0,[11,16])] [] [] [] itn zz8 rn gn (tc (zqb a) tn) (by kernel_rfl) λt=>by kernel_rfl
def Ql(s:Nat)(r:jk):Option Bool:=J (σ:=Bool×jk) (λ(a,b)=>ifB a (some false) (jn (σ:=Int×jk) (λ(d,e)f=>ifB (decide (d<(e.1.length:Int))) (J (σ:=Int×Bool×jk) (λ(g,h,i)=>ifB h (some false) (ja (some (w64 (g+1))) λk=>f (k,i))) λj=>ja (atL e.2.1 d) λl=>ja (some (decide (l<0))) λm=>ifB m (j (d,true,e)) (ja (atL e.2.2.2.1 d) λn=>ja (Zl s e n) λo=>j (d,!o,e))) (some true)) s (0,b))) λc=>ja (some (decide (¬(r.2.1.length:Int)=(r.1.length:Int)))) λp=>ifB p (c (true,r)) (ifB (decide (¬(r.2.2.1.length:Int)=(r.1.length:Int))) (c (true,r)) (ifB (decide (¬(r.2.2.2.1.length:Int)=(r.1.length:Int))) (c (true,r)) (ja (Zl s r r.2.2.2.2.1) λq=>c (!q,r))))
def z0c:=lk (α:=HK) [(12,me [vp 1 0,vb 35] [.box 84 [.v ju]] 1),(58,me [vp 1 0,vi 3] [.box 84 [.v ju]] 1),(1864,me [vp 1 0,vi 3,vb 58] [.box 84 [.v ju]] 1)]
theorem Yw(a:Nat):jv 79 ⟨[ju],.bool,λt=>Ql a t⟩:=mk1 func79 a 0 [(0,[10,42,48])] [] [] [] itn z0c rn gn (tc (zo0 a) tn) (by kernel_rfl) λt=>by kernel_rfl
def Ze(k:Nat)(l:W6)(m:Int)(n:Int):Option Bool:=jn (σ:=W6×Int×Int×Int) (λ(a,b,c,d)e=>ifB (decide (d<(a.length:Int))) (ja (atL a d) λf=>ja (Yk k f (wr .u8 b)) λg=>ja (atL a d) λh=>ja (Yk k h (wr .u8 c)) λi=>ifB (g != i) (some false) (ja (some (w64 (d+1))) λj=>e (a,b,c,j))) (some true)) k (l,m,n,0)
def zyo:=lk (α:=HK) [(26,me [(0,.v (.sl (.arr 4 (.int .u64)))),vi 1,vi 2,vi 7] [] 0)]
theorem zrf(a:Nat):jv 148 ⟨[(.sl (.arr 4 (.int .u64))),I6,I6],.bool,λt=>Ze a (t.1) (t.2.1) (t.2.2)⟩:=mk1 func148 a 0 [(0,[13])] [] [] [] itn zyo rn gn (tc (zev a) tn) (by kernel_rfl) λt=>by kernel_rfl
def zh3(t:Nat)(A:W6):Option (Wa×Int×Unit):=jn (σ:=W6×Int×Int×Wa×Wa) (λ(a,b,c,d,e)f=>ifB (decide (c<256)) (J (σ:=W6×Int×Int×Wa×Wa) (λ(g,h,i,j,k)=>ja (some (w64 (i+1))) λm=>f (g,h,m,j,k)) λl=>jn (σ:=W6×Int×Int×Int×Wa×Wa) (λ(n,o,p,q,r,s)u=>ja (Ze t n q p) λv=>ifB (!v) (ja (some (w64 (q+1))) λw=>u (n,o,p,w,r,s)) (ifB (decide (q<p)) (ja (jw 256 q) λx=>ja (atL s.l x) λy=>ja (jw 256 p) λz=>ja (ztv s z y) λB=>l (n,o,p,r,B)) (ja (jw 256 p) λC=>ja (ztv s C (wr .u8 o)) λD=>ja (some (w64 (o+1))) λE=>l (n,E,p,r,D)))) t (a,b,c,0,d,e)) (some (e,b,()))) t (A,0,0,⟨List.replicate 256 0,wch⟩,⟨List.replicate 256 0,wch⟩)
def jap:=lk (α:=HK) [(122,me [(0,.v (.sl (.arr 4 (.int .u64)))),vp 2 0,vp 4 1,vi 5,vi 6] [.box 29 [.v (.arr 256 U8)],.box 29 [.v (.arr 256 U8)]] 2),(978,me [(0,.v (.sl (.arr 4 (.int .u64)))),vp 2 0,vp 4 1,vi 5,vi 6] [.box 29 [.v (.arr 256 U8)],.box 29 [.v (.arr 256 U8)]] 2),(15652,me [(0,.v (.sl (.arr 4 (.int .u64)))),vp 2 0,vp 4 1,vi 5,vi 6,vi 7] [.box 29 [.v (.arr 256 U8)],.box 29 [.v (.arr 256 U8)]] 2)]
theorem zzx(a:Nat):jv 80 ⟨[(.sl (.arr 4 (.int .u64)))],(.tup (.cons (.arr 256 U8) (.cons I6 .nil))),λt=>zh3 a t⟩:=mk1 func80 a 0 [(0,[12,19,33])] [] [] [] itn jap rn gn (tc (zrf a) tn) (by kernel_rfl) λt=>by kernel_rfl
def zck(q:Nat)(o:Wa)(p:Int):Option W7:=jn (σ:=Int×Int×Wa×W7) (λ(a,b,c,d)e=>ifB (decide (b<256)) (J (σ:=Int×Int×Wa×W7) (λ(f,g,h,i)=>ja (some (w64 (g+1))) λk=>e (f,k,h,i)) λj=>ja (jw 256 b) λl=>ja (atL c.l l) λm=>ifB (decide ((wr .i64 m)=a)) (ja (apO 1 d [wr .u8 b]) λn=>j (a,b,c,n)) (j (a,b,c,d))) (some d)) q (p,0,o,[])
def zyz:=lk (α:=HK) [(58,me [vi 1,vp 2 0,vo 5 1,vi 6] [.box 29 [.v (.arr 256 U8)],.row 5 U8] 2),(466,me [vi 1,vp 2 0,vo 5 1,vi 6] [.box 29 [.v (.arr 256 U8)],.row 5 U8] 2)]
theorem zra(a:Nat):FFOk 81 ⟨[(.arr 256 U8),I6],5,U8,λt=>zck a (t.1) (t.2)⟩:=mk2 func81 a 0 [(0,[11])] [(0,[(7,.own U8),(21,.told U8)])] [] [] itn zyz rn gn tn (by kernel_rfl) λt=>by kernel_rfl
theorem zq4(a:Nat):jv 81 ⟨[(.arr 256 U8),I6],(.sl U8),λt=>zck a (t.1) (t.2)⟩:=(zra a).pure
def zhf(t:Nat)(z:jk)(A:W7)(B:Int):Option W7:=jn (σ:=W7×Int×Int×jk×W7) (λ(a,b,c,d,e)f=>ifB (decide (c<(d.1.length:Int))) (J (σ:=W7×Int×Int×jk×W7) (λ(g,h,i,j,k)=>ja (some (w64 (i+1))) λm=>f (g,h,m,j,k)) λl=>J (σ:=W7×Int×Int×Bool×jk×W7) (λ(n,o,p,q,r,s)=>ifB q (ja (apO 8 s [p]) λv=>l (n,o,p,r,v)) (l (n,o,p,r,s))) λu=>ja (Qb t a c) λw=>ifB w (ja (atL d.1 c) λx=>ja (Yk t x b) λy=>u (a,b,c,y,d,e)) (u (a,b,c,false,d,e))) (some e)) t (A,B,0,z,[])
def z3k:=lk (α:=HK) [(58,me [vl 1,(2,.v U8),vp 3 0,vo 7 1,vi 8] [.box 84 [.v ju],.row 3 I6] 2),(466,me [vl 1,(2,.v U8),vp 3 0,vo 7 1,vi 8] [.box 84 [.v ju],.row 3 I6] 2),(1864,me [vl 1,(2,.v U8),vp 3 0,vo 7 1,vi 8,vb 28] [.box 84 [.v ju],.row 3 I6] 2)]
theorem zim(a:Nat):FFOk 149 ⟨[ju,L6,U8],3,I6,λt=>zhf a (t.1) (t.2.1) (t.2.2)⟩:=mk2 func149 a 0 [(0,[16])] [(0,[(9,.own I6),(31,.told I6)])] [] [] itn z3k rn gn (tc (Qy a) (tc (zev a) tn)) (by kernel_rfl) λt=>by kernel_rfl
abbrev zd2:=zhf
def zax(t:Nat)(A:jk)(B:W7)(C:Int):Option W7:=ja (Ql t A) λa=>ifB (!a) (some []) (jn (σ:=W7×Int×Int×jk×W7) (λ(b,c,d,e,f)g=>ifB (decide (d<(b.length:Int))) (J (σ:=W7×Int×Int×jk×W7) (λ(h,i,j,k,l)=>ja (some (w64 (j+1))) λn=>g (h,i,n,k,l)) λm=>J (σ:=W7×Int×Int×Bool×jk×W7) (λ(o,p,q,r,s,u)=>ifB r (ja (atL o q) λw=>ja (atL s.2.2.2.1 w) λx=>ja (apO 8 u x) λy=>m (o,p,q,s,y)) (m (o,p,q,s,u))) λv=>ja (atL b d) λz=>ja (some (decide (0<=z))) λD=>ifB D (ja (atL b d) λE=>v (b,c,d,decide (E<(e.1.length:Int)),e,f)) (v (b,c,d,false,e,f))) (ja (zd2 t e f c) λF=>some F)) t (B,C,0,A,[]))
def z5e:=lk (α:=HK) [(122,me [vl 1,(2,.v U8),vp 3 0,vo 7 1,vi 8] [.box 84 [.v ju],.row 3 I6] 2),(978,me [vl 1,(2,.v U8),vp 3 0,vo 7 1,vi 8] [.box 84 [.v ju],.row 3 I6] 2),(3912,me [vl 1,(2,.v U8),vp 3 0,vo 7 1,vi 8,vb 34] [.box 84 [.v ju],.row 3 I6] 2)]
theorem zsh(a:Nat):FFOk 82 ⟨[ju,L6,U8],3,I6,λt=>zax a (t.1) (t.2.1) (t.2.2)⟩:=mk2 func82 a 0 [(0,[19,24])] [(0,[(9,.own I6)])] [] [579] itn z5e rn (gc (zim a) gn) (tc (Yw a) tn) (by kernel_rfl) λt=>by kernel_rfl
theorem zsr(a:Nat):jv 82 ⟨[ju,L6,U8],L6,λt=>zax a (t.1) (t.2.1) (t.2.2)⟩:=(zsh a).pure
def Zi(d:Nat)(c:jk)(e:Int):Option W7:=ja (Ql d c) λa=>ifB (!a) (some []) (ja (zd2 d c c.2.2.2.2.1 e) λb=>some b)
theorem zo1(a:Nat):FFOk 83 ⟨[ju,U8],3,I6,λt=>Zi a (t.1) (t.2)⟩:=mk2 func83 a 0 [] [(0,[(8,.own I6)])] [] [196] itn h0 rn (gc (zim a) gn) (tc (Yw a) tn) (by kernel_rfl) λt=>by kernel_rfl
theorem zqh(a:Nat):jv 83 ⟨[ju,U8],L6,λt=>Zi a (t.1) (t.2)⟩:=(zo1 a).pure
def Q8(j:Nat)(h:W7)(i:W7):Option Bool:=ifB (decide (¬(h.length:Int)=(i.length:Int))) (some false) (jn (σ:=W7×W7×Int) (λ(a,b,c)d=>ifB (decide (c<(a.length:Int))) (ja (atL a c) λe=>ja (atL b c) λf=>ifB (decide (¬e=f)) (some false) (ja (some (w64 (c+1))) λg=>d (a,b,g))) (some true)) j (h,i,0))
def z4a:=lk (α:=HK) [(58,me [vl 0,vl 1,vi 5] [] 0)]
theorem zdf(a:Nat):jv 37 ⟨[L6,L6],.bool,λt=>Q8 a (t.1) (t.2)⟩:=mk1 func37 a 0 [(0,[16])] [] [] [] itn z4a rn gn tn (by kernel_rfl) λt=>by kernel_rfl
def zdx(h:Nat)(i:W4)(j:W7):Option Int:=jn (σ:=W4×W7×Int) (λ(a,b,c)d=>ifB (decide (c<(a.length:Int))) (ja (atL a c) λe=>ja (Q8 h e b) λf=>ifB f (some c) (ja (some (w64 (c+1))) λg=>d (a,b,g))) (some (-1))) h (i,j,0)
def z42:=lk (α:=HK) [(26,me [(0,.v M6),vl 1,vi 5] [] 0)]
theorem zs7(a:Nat):jv 84 ⟨[M6,L6],I6,λt=>zdx a (t.1) (t.2)⟩:=mk1 func84 a 0 [(0,[11])] [] [] [] itn z42 rn gn (tc (zdf a) tn) (by kernel_rfl) λt=>by kernel_rfl
def zb9(A:Nat)(t:jk)(B:W7):Option Int:=ja (Ql A t) λa=>ifB (!a) (some (-1)) (jn (σ:=W7×Int×Int×jk) (λ(b,c,d,e)f=>ifB (decide (d<(b.length:Int))) (J (σ:=W7×Int×Int×jk) (λ(g,h,i,j)=>ja (some (w64 (i+1))) λl=>f (g,h,l,j)) λk=>J (σ:=W7×Int×Int×Bool×jk) (λ(m,n,o,p,q)=>ifB p (ja (atL m o) λs=>ja (atL q.2.1 s) λu=>k (m,u,o,q)) (k (m,n,o,q))) λr=>ja (atL b d) λv=>ja (some (decide (0<=v))) λw=>ifB w (ja (atL b d) λx=>ifB (decide (x<(e.1.length:Int))) (ja (atL b d) λy=>ja (atL e.2.2.1 y) λz=>ifB z (ja (some (decide (c<0))) λC=>ifB C (r (b,c,d,true,e)) (ja (atL b d) λD=>ja (atL e.2.1 D) λE=>r (b,c,d,decide (E<c),e))) (r (b,c,d,false,e))) (r (b,c,d,false,e))) (r (b,c,d,false,e))) (some c)) A (B,(-1),0,t))
def zzn:=lk (α:=HK) [(122,me [vl 1,vp 2 0,vi 5,vi 6] [.box 84 [.v ju]] 1),(978,me [vl 1,vp 2 0,vi 5,vi 6] [.box 84 [.v ju]] 1),(3912,me [vl 1,vp 2 0,vi 5,vi 6,vb 57] [.box 84 [.v ju]] 1)]
theorem zph(a:Nat):jv 85 ⟨[ju,L6],I6,λt=>zb9 a (t.1) (t.2)⟩:=mk1 func85 a 0 [(0,[16,21,44])] [] [] [] itn zzn rn gn (tc (Yw a) tn) (by kernel_rfl) λt=>by kernel_rfl
def Zu(t:Nat)(H:jk)(D:Int):Option (jg×Int×Int×Unit):=ja (Ql t H) λa=>ifB (!a) (some ((⟨List.replicate 256 0,wch⟩,0,[],[],()),0,3,())) (J (σ:=Int×Bool×jk×Wa×Int×W4×W7) (λ(b,c,d,e,f,g,h)=>ifB c (some ((⟨List.replicate 256 0,wch⟩,0,[],[],()),0,2,())) (ja (zh3 t d.1) λj=>jn (σ:=Int×Int×jk×Wa×Int×Wa×Int×W4×W4×W7×W4×W7) (λ(k,l,m,n,o,p,q,r,s,u,v,w)x=>ifB (decide (l<(r.length:Int))) (jn (σ:=Int×Int×Int×jk×Wa×Int×Wa×Int×W4×W7×W4×W7×W4×W7) (λ(y,z,E,B,I,K,F,G,A,L,b8,M,c0,N)c2=>ifB (decide (E<G)) (ja (zck t F E) λc3=>ja (atL c3 0) λc4=>ja (jw A.length z) λc5=>ja (atL A c5) λc6=>ja (zax t B c6 c4) λc7=>J (σ:=Int×Int×Int×W7×jk×Wa×Int×Wa×Int×W4×W7×W4×W7×W4×W7) (λ(O,P,Q,R,S,T,U,V,W,C,X,Y,Z,e1,e2)=>ja (zdx t C R) λe4=>J (σ:=Int×Int×Int×Int×jk×Wa×Int×Wa×Int×W4×W7×W4×W7×W4×W7) (λ(e5,e6,e7,e8,e9,f0,f1,f2,f3,f4,f5,f6,f7,f8,f9)=>ifB (decide (e5<(f4.length:Int))) (some ((⟨List.replicate 256 0,wch⟩,0,[],[],()),0,16,())) (ja (apO 8 f5 [e8]) λg1=>ja (some (w64 (e7+1))) λg2=>c2 (e5,e6,g2,e9,f0,f1,f2,f3,f4,g1,f6,f7,f8,f9))) λg0=>ifB (decide ((R.length:Int)=0)) (g0 (O,P,Q,(-1),S,T,U,V,W,C,X,Y,Z,e1,e2)) (ifB (decide (e4<0)) (ja (some (C.length:Int)) λg3=>ja (apO 24 C [R]) λg4=>g0 (O,P,Q,g3,S,T,U,V,W,g4,X,Y,Z,e1,e2)) (g0 (O,P,Q,e4,S,T,U,V,W,C,X,Y,Z,e1,e2)))) λe3=>ifB (decide (z=0)) (ja (Zi t B c4) λg5=>e3 (y,z,E,g5,B,I,K,F,G,A,L,b8,M,c0,N)) (e3 (y,z,E,c7,B,I,K,F,G,A,L,b8,M,c0,N))) (ja (apO 24 c0 [L]) λg6=>ja (jw A.length z) λg7=>ja (atL A g7) λg8=>ja (zb9 t B g8) λg9=>ja (apO 8 N [g9]) λh0=>ja (some (w64 (z+1))) λh1=>x (y,h1,B,I,K,F,G,A,b8,M,g6,h0))) t (k,l,0,m,n,o,p,q,r,[],s,u,v,w)) (some ((p,q,v,w,()),(r.length:Int),0,()))) t (b,0,d,e,f,j.1,j.2.1,[[]],g,h,[],[]))) λi=>ja (some (decide (D<1))) λh2=>ifB h2 (i (D,true,H,⟨List.replicate 256 0,wch⟩,0,[],[])) (i (D,decide (4096<D),H,⟨List.replicate 256 0,wch⟩,0,[],[])))
def zys:=lk (α:=HK) [(28,me [vi 1,vp 2 0,vp 4 1,vb 24] [.box 84 [.v ju],.box 33 [.v (.arr 256 U8),.v I6,.own 2,.own 3],.row 31 L6,.row 3 I6] 4),(1018,me [vi 1,vp 2 0,vp 4 1,vp 7 2,vo 8 3,vi 9] [.box 84 [.v ju],.box 33 [.v (.arr 256 U8),.v I6,.own 4,.own 5],.box 33 [.v (.arr 256 U8),.v I6,.own 6,.own 7],.row 31 L6,.row 31 L6,.row 3 I6,.row 31 L6,.row 3 I6] 8),(260682,me [vi 1,vp 2 0,vp 4 1,vp 7 2,vo 8 3,vi 9,vo 10 4,vi 11] [.box 84 [.v ju],.box 33 [.v (.arr 256 U8),.v I6,.own 5,.own 6],.box 33 [.v (.arr 256 U8),.v I6,.own 7,.own 8],.row 31 L6,.row 3 I6,.row 31 L6,.row 3 I6,.row 31 L6,.row 3 I6] 9),(16683667,me [vi 1,vp 2 0,vp 4 1,vp 7 2,vo 8 3,vi 9,vo 10 4,vi 11,vl 13] [.box 84 [.v ju],.box 33 [.v (.arr 256 U8),.v I6,.own 5,.own 6],.box 33 [.v (.arr 256 U8),.v I6,.own 7,.own 8],.row 31 L6,.row 3 I6,.row 31 L6,.row 3 I6,.row 31 L6,.row 3 I6] 9),(66734671,me [vi 1,vp 2 0,vp 4 1,vp 7 2,vo 8 3,vi 9,vo 10 4,vi 11,vi 14] [.box 84 [.v ju],.box 33 [.v (.arr 256 U8),.v I6,.own 5,.own 6],.box 33 [.v (.arr 256 U8),.v I6,.own 7,.own 8],.row 31 L6,.row 3 I6,.row 31 L6,.row 3 I6,.row 31 L6,.row 3 I6] 9)]
theorem zpd(a:Nat):jv 31 ⟨[ju,I6],(.tup (.cons jo (.cons I6 (.cons I6 .nil)))),λt=>Zu a (t.1) (t.2)⟩:=mk1 func31 a 0 [(0,[20,42,49,77])] [(0,[(35,.told I6),(36,.own L6),(43,.own I6),(80,.told L6),(89,.told I6),(94,.ownx),(105,.told I6)])] [(1796,[(94,M6)])] [] itn zys rn gn (tc (Yw a) (tc (zzx a) (tc (zq4 a) (tc (zsr a) (tc (zqh a) (tc (zs7 a) (tc (zph a) tn))))))) (by kernel_rfl) λt=>by kernel_rfl
def zb6(p:Nat)(o:Wa):Option Bool:=jn (σ:=Int×Int×Wa) (λ(a,b,c)d=>ifB (decide (b<256)) (J (σ:=Int×Int×Wa) (λ(e,f,g)=>ja (some (w64 (f+1))) λi=>d (e,i,g)) λh=>ja (jw 256 b) λj=>ja (atL c.l j) λk=>ifB (decide (a<(wr .i64 k))) (some false) (ja (jw 256 b) λl=>ja (atL c.l l) λm=>ifB (decide ((wr .i64 m)=a)) (ja (some (w64 (a+1))) λn=>h (n,b,c)) (h (a,b,c)))) (some true)) p (0,0,o)
def zzv:=lk (α:=HK) [(58,me [vp 1 0,vi 3,vi 4] [.box 29 [.v (.arr 256 U8)]] 1),(466,me [vp 1 0,vi 3,vi 4] [.box 29 [.v (.arr 256 U8)]] 1)]
theorem zpc(a:Nat):jv 155 ⟨[(.arr 256 U8)],.bool,λt=>zb6 a t⟩:=mk1 func155 a 0 [(0,[8,22])] [] [] [] itn zzv rn gn tn (by kernel_rfl) λt=>by kernel_rfl
def zcm(j:Nat)(i:Wa):Option Int:=jn (σ:=Int×Int×Wa) (λ(a,b,c)d=>ifB (decide (b<256)) (ja (jw 256 b) λe=>ja (atL c.l e) λf=>ja (some (max a (w64 ((wr .i64 f)+1)))) λg=>ja (some (w64 (b+1))) λh=>d (g,h,c)) (some a)) j (0,0,i)
def zzd:=lk (α:=HK) [(58,me [vp 1 0,vi 3,vi 4] [.box 29 [.v (.arr 256 U8)]] 1)]
theorem zq8(a:Nat):jv 110 ⟨[(.arr 256 U8)],I6,λt=>zcm a t⟩:=mk1 func110 a 0 [(0,[8,15])] [] [] [] itn zzd rn gn tn (by kernel_rfl) λt=>by kernel_rfl
def yu(A:Nat)(t:jg):Option Bool:=J (σ:=Bool×jg) (λ(a,b)=>ifB a (some false) (jn (σ:=Int×jg) (λ(d,e)f=>ifB (decide (d<(e.2.2.1.length:Int))) (J (σ:=Int×Bool×jg) (λ(g,h,i)=>ifB h (some false) (jn (σ:=Int×Int×jg) (λ(k,l,m)n=>ifB (decide (l<m.2.1)) (J (σ:=Int×Int×Bool×jg) (λ(o,p,q,r)=>ifB q (some false) (ja (some (w64 (p+1))) λu=>n (o,u,r))) λs=>ja (atL m.2.2.1 k) λv=>ja (atL v l) λw=>ja (some (decide (w<(-1)))) λx=>ifB x (s (k,l,true,m)) (ja (atL m.2.2.1 k) λy=>ja (atL y l) λz=>s (k,l,decide ((m.2.2.1.length:Int)<=z),m))) (ja (some (w64 (k+1))) λB=>f (B,m))) A (g,0,i))) λj=>ja (atL e.2.2.1 d) λC=>ja (some (decide (¬(C.length:Int)=e.2.1))) λD=>ifB D (j (d,true,e)) (ja (atL e.2.2.2.1 d) λE=>j (d,decide (E<(-1)),e))) (some true)) A (0,b))) λc=>ja (zb6 A t.1) λF=>ja (some (!F)) λG=>ifB G (c (true,t)) (ja (zcm A t.1) λH=>ifB (decide (¬t.2.1=H)) (c (true,t)) (ifB (decide ((t.2.2.1.length:Int)=0)) (c (true,t)) (c (decide (¬(t.2.2.2.1.length:Int)=(t.2.2.1.length:Int)),t))))
def zz6:=lk (α:=HK) [(12,me [vp 1 0,vb 31] [.box 33 [.v jo]] 1),(58,me [vp 1 0,vi 3] [.box 33 [.v jo]] 1),(3728,me [vp 1 0,vi 3,vb 55] [.box 33 [.v jo]] 1),(7462,me [vp 1 0,vi 3,vi 4] [.box 33 [.v jo]] 1),(238792,me [vp 1 0,vi 3,vi 4,vb 84] [.box 33 [.v jo]] 1)]
theorem zbg(a:Nat):jv 96 ⟨[jo],.bool,λt=>yu a t⟩:=mk1 func96 a 0 [(0,[8,38,47,61,70])] [] [] [] itn zz6 rn gn (tc (zq8 a) (tc (zpc a) tn)) (by kernel_rfl) λt=>by kernel_rfl
def J3(A:Nat)(B:jg):Option W8:=ja (yu A B) λa=>ifB (!a) (some []) (ja (some (B.2.2.1.length:Int)) λb=>ja (mkO 1 b) λc=>ja (jw (List.replicate c false).length 0) λd=>ja (yz (List.replicate c false) d true) λe=>jn (σ:=Int×jg×W8) (λ(f,g,h)i=>ifB (decide (f<(h.length:Int))) (jn (σ:=Int×Int×jg×W8) (λ(j,k,l,m)n=>ifB (decide (k<(m.length:Int))) (jn (σ:=Int×Int×Int×jg×W8) (λ(o,p,q,r,s)u=>J (σ:=Int×Int×Int×Bool×jg×W8) (λ(v,w,x,y,z,t)=>ifB y (J (σ:=Int×Int×Int×jg×W8) (λ(E,F,G,H,I)=>ja (some (w64 (G+1))) λb8=>u (E,F,b8,H,I)) λD=>ja (atL z.2.2.1 w) λK=>ja (atL K x) λc0=>ifB (decide (0<=c0)) (ja (atL z.2.2.1 w) λL=>ja (atL L x) λM=>ja (jw t.length M) λN=>ja (yz t N true) λO=>D (v,w,x,z,O)) (D (v,w,x,z,t))) (ja (some (w64 (w+1))) λP=>n (v,P,z,t))) λC=>ja (jw s.length p) λQ=>ja (atL s Q) λR=>ifB R (C (o,p,q,decide (q<r.2.1),r,s)) (C (o,p,q,false,r,s))) A (j,k,0,l,m)) (ja (some (w64 (j+1))) λS=>i (S,l,m))) A (f,0,g,h)) (some h)) A (0,B,e))
def ztg:=lk (α:=HK) [(250,me [vp 1 0,vo 3 1,vi 4] [.box 33 [.v jo],.row 4 .bool] 2),(16018,me [vp 1 0,vo 3 1,vi 4,vi 5] [.box 33 [.v jo],.row 4 .bool] 2),(1025170,me [vp 1 0,vo 3 1,vi 4,vi 5,vi 6] [.box 33 [.v jo],.row 4 .bool] 2),(8201360,me [vp 1 0,vo 3 1,vi 4,vi 5,vi 6,vb 38] [.box 33 [.v jo],.row 4 .bool] 2),(8201362,me [vp 1 0,vo 3 1,vi 4,vi 5,vi 6] [.box 33 [.v jo],.row 4 .bool] 2)]
theorem zlx(a:Nat):FFOk 91 ⟨[jo],4,.bool,λt=>J3 a t⟩:=mk2 func91 a 0 [(0,[13,22,28,40])] [(0,[(10,.own .bool)])] [] [] itn ztg rn gn (tc (zbg a) tn) (by kernel_rfl) λt=>by kernel_rfl
theorem zew(a:Nat):jv 91 ⟨[jo],LB,λt=>J3 a t⟩:=(zlx a).pure
def ya(t:Nat)(y:jg):Option W7:=ja (J3 t y) λa=>jn (σ:=W8×Int×jg×W7) (λ(b,c,d,e)f=>ifB (decide (c<(b.length:Int))) (J (σ:=W8×Int×jg×W7) (λ(g,h,i,j)=>ja (some (w64 (h+1))) λl=>f (g,l,i,j)) λk=>J (σ:=W8×Int×Bool×jg×W7) (λ(m,n,o,p,q)=>ifB o (ja (atL p.2.2.2.1 n) λs=>ja (apO 8 q [s]) λu=>k (m,n,p,u)) (k (m,n,p,q))) λr=>ja (atL b c) λv=>ifB v (ja (atL d.2.2.2.1 c) λw=>r (b,c,decide (0<=w),d,e)) (r (b,c,false,d,e))) (ja (zyn t e) λx=>some x)) t (a,0,y,[])
def zwx:=lk (α:=HK) [(122,me [vp 1 0,vo 3 1,(4,.v LB),vi 5] [.box 33 [.v jo],.row 3 I6] 2),(978,me [vp 1 0,vo 3 1,(4,.v LB),vi 5] [.box 33 [.v jo],.row 3 I6] 2),(3912,me [vp 1 0,vo 3 1,(4,.v LB),vi 5,vb 26] [.box 33 [.v jo],.row 3 I6] 2)]
theorem zm8(a:Nat):FFOk 33 ⟨[jo],3,I6,λt=>ya a t⟩:=mk2 func33 a 0 [(0,[14])] [(0,[(6,.own I6),(33,.told I6)])] [] [513] itn zwx rn (gc (zk6 a) gn) (tc (zew a) tn) (by kernel_rfl) λt=>by kernel_rfl
theorem zm7(a:Nat):jv 33 ⟨[jo],L6,λt=>ya a t⟩:=(zm8 a).pure
def Vn(t:Nat)(A:jb):Option (W4×Int×Unit):=ja (yj t A) λa=>ifB (!a) (some ([],3,())) (ja (Qn t A) λb=>ifB (decide (¬b.1.1=0)) (some ([],15,())) (ja (J8 t A) λc=>jn (σ:=W4×Int×jb×W4) (λ(d,e,f,g)h=>ifB (decide (e<(f.2.1.length:Int))) (jn (σ:=W4×Int×Int×jb×W4×W7) (λ(i,j,k,l,m,n)o=>ifB (decide (k<=(l.1.length:Int))) (J (σ:=W4×Int×Int×jb×W4×W7) (λ(p,q,r,s,u,v)=>ja (some (w64 (r+1))) λx=>o (p,q,x,s,u,v)) λw=>ja (Js t l i j k) λy=>ifB (decide ((y.length:Int)=0)) (ja (apO 8 n [(-1)]) λz=>w (i,j,k,l,m,z)) (ja (atL y 0) λB=>ja (apO 8 n [B]) λC=>w (i,j,k,l,m,C))) (ja (apO 24 m [n]) λD=>ja (some (w64 (j+1))) λE=>h (i,E,l,D))) t (d,e,0,f,g,[])) (some (g,0,()))) t (c,0,A,[])))
def zy1:=lk (α:=HK) [(506,me [vp 1 0,vo 4 1,(7,.v M6),vi 8] [.box 26 [.v jc],.row 31 L6] 2),(129610,me [vp 1 0,vo 4 1,(7,.v M6),vi 8,vo 9 2,vi 10] [.box 26 [.v jc],.row 31 L6,.row 3 I6] 3),(1036882,me [vp 1 0,vo 4 1,(7,.v M6),vi 8,vo 9 2,vi 10] [.box 26 [.v jc],.row 31 L6,.row 3 I6] 3)]
theorem zqk(a:Nat):jv 35 ⟨[jc],(.tup (.cons M6 (.cons I6 .nil))),λt=>Vn a t⟩:=mk1 func35 a 0 [(0,[34,42])] [(0,[(12,.own L6),(35,.own I6),(52,.told I6),(58,.told I6),(62,.ownx)])] [(1219,[(62,M6)])] [] itn zy1 rn gn (tc (zg1 a) (tc (yp a) (tc (zcp a) (tc (zdm a) tn)))) (by kernel_rfl) λt=>by kernel_rfl
def Zf(t:Nat)(A:jg):Option W8:=ja (yu t A) λa=>ifB (!a) (some []) (ja (some (A.2.2.1.length:Int)) λb=>ja (mkO 1 b) λc=>jn (σ:=Int×jg×W8) (λ(d,e,f)g=>ifB (decide (d<=(f.length:Int))) (jn (σ:=Int×Int×jg×W8) (λ(h,i,j,k)l=>ifB (decide (i<(k.length:Int))) (J (σ:=Int×Int×jg×W8) (λ(m,n,o,p)=>jn (σ:=Int×Int×Int×jg×W8) (λ(r,s,u,v,w)x=>ifB (decide (u<v.2.1)) (J (σ:=Int×Int×Int×jg×W8) (λ(y,z,H,I,K)=>ja (some (w64 (H+1))) λL=>x (y,z,L,I,K)) λC=>J (σ:=Int×Int×Int×Bool×jg×W8) (λ(D,B,E,b8,F,c0)=>ifB b8 (ja (jw c0.length B) λM=>ja (yz c0 M true) λN=>C (D,B,E,F,N)) (C (D,B,E,F,c0))) λG=>ja (atL v.2.2.1 s) λO=>ja (atL O u) λP=>ja (some (decide (0<=P))) λQ=>ifB Q (ja (atL v.2.2.1 s) λR=>ja (atL R u) λS=>ja (jw w.length S) λT=>ja (atL w T) λU=>G (r,s,u,U,v,w)) (G (r,s,u,false,v,w))) (ja (some (w64 (s+1))) λV=>l (r,V,v,w))) t (m,n,0,o,p)) λq=>ja (jw k.length i) λW=>ja (atL k W) λX=>ifB X (ja (jw k.length i) λY=>ja (yz k Y true) λZ=>q (h,i,j,Z)) (ja (atL j.2.2.2.1 i) λd6=>ja (jw k.length i) λd7=>ja (yz k d7 (decide (0<=d6))) λd8=>q (h,i,j,d8))) (ja (some (w64 (h+1))) λd9=>g (d9,j,k))) t (d,0,e,f)) (some f)) t (0,A,(List.replicate c false)))
def zzb:=lk (α:=HK) [(122,me [vp 1 0,vo 3 1,vi 4] [.box 33 [.v jo],.row 4 .bool] 2),(7826,me [vp 1 0,vo 3 1,vi 4,vi 5] [.box 33 [.v jo],.row 4 .bool] 2),(250440,me [vp 1 0,vo 3 1,vi 4,vi 5] [.box 33 [.v jo],.row 4 .bool] 2),(1001766,me [vp 1 0,vo 3 1,vi 4,vi 5,vi 6] [.box 33 [.v jo],.row 4 .bool] 2),(8014130,me [vp 1 0,vo 3 1,vi 4,vi 5,vi 6] [.box 33 [.v jo],.row 4 .bool] 2),(32056520,me [vp 1 0,vo 3 1,vi 4,vi 5,vi 6,vb 69] [.box 33 [.v jo],.row 4 .bool] 2)]
theorem zqp(a:Nat):FFOk 97 ⟨[jo],4,.bool,λt=>Zf a t⟩:=mk2 func97 a 0 [(0,[13,20,26,47,56])] [(0,[(10,.own .bool)])] [] [] itn zzb rn gn (tc (zbg a) tn) (by kernel_rfl) λt=>by kernel_rfl
theorem zqf(a:Nat):jv 97 ⟨[jo],LB,λt=>Zf a t⟩:=(zqp a).pure
def Ve(A:Nat)(B:jg):Option jg:=ja (yu A B) λa=>ifB (!a) (some (⟨List.replicate 256 0,wch⟩,0,[],[],())) (ja (J3 A B) λb=>ja (Zf A B) λc=>ja (some (B.2.2.1.length:Int)) λd=>ja (mkO 8 d) λe=>jn (σ:=W8×W8×Int×Int×jg×Wa×Int×W7×W4×W7) (λ(f,g,h,i,j,k,l,m,n,o)p=>ifB (decide (i<(m.length:Int))) (J (σ:=W8×W8×Int×Int×jg×Wa×Int×W7×W4×W7) (λ(q,r,s,u,v,w,x,y,z,b0)=>ja (some (w64 (u+1))) λb2=>p (q,r,s,b2,v,w,x,y,z,b0)) λZ=>ja (jw m.length i) λb3=>ja (yz m b3 (-1)) λH=>J (σ:=W8×W8×Int×Int×Bool×jg×Wa×Int×W7×W4×W7) (λ(b5,b6,I,b8,b9,c0,c1,c2,K,c4,c5)=>ifB b9 (ja (jw K.length b8) λc7=>ja (yz K c7 I) λc8=>ja (some (w64 (I+1))) λc9=>Z (b5,b6,c9,b8,c0,c1,c2,c8,c4,c5)) (Z (b5,b6,I,b8,c0,c1,c2,K,c4,c5))) λL=>ja (some (decide (i=0))) λd0=>ifB d0 (L (f,g,h,i,true,j,k,l,H,n,o)) (ja (atL f i) λd1=>ifB d1 (ja (atL g i) λd2=>L (f,g,h,i,d2,j,k,l,H,n,o)) (L (f,g,h,i,false,j,k,l,H,n,o)))) (jn (σ:=Int×jg×Wa×Int×W7×Wa×Int×W4×W7×W4×W7) (λ(F,d4,d5,d6,C,M,N,e0,e1,O,P)e4=>ifB (decide (F<(C.length:Int))) (J (σ:=Int×jg×Wa×Int×W7×Wa×Int×W4×W7×W4×W7) (λ(e5,e6,e7,e8,e9,f0,f1,f2,f3,f4,f5)=>ja (some (w64 (e5+1))) λf7=>e4 (f7,e6,e7,e8,e9,f0,f1,f2,f3,f4,f5)) λf6=>ja (jw C.length F) λf8=>ja (atL C f8) λf9=>ifB (decide (f9<0)) (f6 (F,d4,d5,d6,C,M,N,e0,e1,O,P)) (jn (σ:=Int×Int×jg×Wa×Int×W7×Wa×Int×W7×W4×W7×W4×W7) (λ(D,G,t,Q,R,E,S,T,U,V,h0,W,X)h3=>ifB (decide (G<t.2.1)) (ja (atL t.2.2.1 D) λh4=>ja (atL h4 G) λY=>J (σ:=Int×Int×Int×jg×Wa×Int×W7×Wa×Int×W7×W4×W7×W4×W7) (λ(h6,h7,h8,h9,i0,i1,i2,i3,i4,i5,i6,i7,i8,i9)=>ja (apO 8 i5 [h8]) λj1=>ja (some (w64 (h7+1))) λj2=>h3 (h6,j2,h9,i0,i1,i2,i3,i4,j1,i6,i7,i8,i9)) λj0=>ifB (decide (0<=Y)) (ja (jw E.length Y) λj3=>ja (atL E j3) λj4=>j0 (D,G,j4,t,Q,R,E,S,T,U,V,h0,W,X)) (j0 (D,G,Y,t,Q,R,E,S,T,U,V,h0,W,X))) (ja (apO 24 W [U]) λj5=>ja (atL t.2.2.2.1 D) λj6=>ja (apO 8 X [j6]) λj7=>f6 (D,t,Q,R,E,S,T,V,h0,j5,j7))) A (F,0,d4,d5,d6,C,M,N,[],e0,e1,O,P))) (some (M,N,O,P,()))) A (0,j,k,l,m,j.1,j.2.1,n,o,[],[]))) A (b,c,0,0,B,⟨List.replicate 256 0,wch⟩,0,(List.replicate e (0:Int)),[],[]))
def z4o:=lk (α:=HK) [(506,me [vp 1 0,vp 2 1,(3,.v LB),(4,.v LB),vo 5 2,vi 6,vi 7] [.box 33 [.v jo],.box 33 [.v (.arr 256 U8),.v I6,.own 3,.own 4],.row 3 I6,.row 31 L6,.row 3 I6] 5),(2042,me [vp 1 0,vp 2 1,vo 5 2,vp 8 3,vi 9] [.box 33 [.v jo],.box 33 [.v (.arr 256 U8),.v I6,.own 4,.own 5],.row 3 I6,.box 33 [.v (.arr 256 U8),.v I6,.own 6,.own 7],.row 31 L6,.row 3 I6,.row 31 L6,.row 3 I6] 8),(4050,me [vp 1 0,vp 2 1,(3,.v LB),(4,.v LB),vo 5 2,vi 6,vi 7] [.box 33 [.v jo],.box 33 [.v (.arr 256 U8),.v I6,.own 3,.own 4],.row 3 I6,.row 31 L6,.row 3 I6] 5),(16338,me [vp 1 0,vp 2 1,vo 5 2,vp 8 3,vi 9] [.box 33 [.v jo],.box 33 [.v (.arr 256 U8),.v I6,.own 4,.own 5],.row 3 I6,.box 33 [.v (.arr 256 U8),.v I6,.own 6,.own 7],.row 31 L6,.row 3 I6,.row 31 L6,.row 3 I6] 8),(32402,me [vp 1 0,vp 2 1,(3,.v LB),(4,.v LB),vo 5 2,vi 6,vi 7,vb 47] [.box 33 [.v jo],.box 33 [.v (.arr 256 U8),.v I6,.own 3,.own 4],.row 3 I6,.row 31 L6,.row 3 I6] 5),(1045658,me [vp 1 0,vp 2 1,vo 5 2,vp 8 3,vi 9,vo 10 4,vi 11] [.box 33 [.v jo],.box 33 [.v (.arr 256 U8),.v I6,.own 5,.own 6],.row 3 I6,.box 33 [.v (.arr 256 U8),.v I6,.own 7,.own 8],.row 3 I6,.row 31 L6,.row 3 I6,.row 31 L6,.row 3 I6] 9),(33461065,me [vp 1 0,vp 2 1,vo 5 2,vp 8 3,vi 9,vo 10 4,vi 11,vi 12] [.box 33 [.v jo],.box 33 [.v (.arr 256 U8),.v I6,.own 5,.own 6],.row 3 I6,.box 33 [.v (.arr 256 U8),.v I6,.own 7,.own 8],.row 3 I6,.row 31 L6,.row 3 I6,.row 31 L6,.row 3 I6] 9)]
theorem zt6(a:Nat):jv 36 ⟨[jo],jo,λt=>Ve a t⟩:=mk1 func36 a 0 [(0,[23,30,35,53,64,76])] [(0,[(70,.own I6),(93,.told I6),(98,.ownx),(108,.told I6)])] [(1668,[(98,M6)])] [] itn z4o rn gn (tc (zew a) (tc (zbg a) (tc (zqf a) tn))) (by kernel_rfl) λt=>by kernel_rfl
def Jr(s:Nat)(t:jb):Option (jg×W4×jd×Unit):=ja (Vb s t) λa=>ifB (decide (¬a.1=0)) (some ((⟨List.replicate 256 0,wch⟩,0,[],[],()),[],a,())) (ja (zaw s t.1) λb=>ja (Zu s b t.2.2.2.2.1) λc=>ifB (decide (¬c.2.2.1=0)) (some ((⟨List.replicate 256 0,wch⟩,0,[],[],()),[],(16,0,0,()),())) (ja (ya s c.1) λd=>jn (σ:=W7×Int×jb×Wa×Int×jd×jg×W4×W7) (λ(e,f,g,h,i,j,k,l,m)n=>ifB (decide (f<(g.1.length:Int))) (ja (Qb s e f) λo=>ifB (!o) (some ((⟨List.replicate 256 0,wch⟩,0,[],[],()),[],(13,f,1,()),())) (ja (some (w64 (f+1))) λp=>n (e,p,g,h,i,j,k,l,m))) (ja (Vn s g) λq=>ja (Ve s k) λr=>some (r,q.1,(0,0,0,()),()))) s (d,0,t,⟨List.replicate 256 0,wch⟩,0,(0,0,0,()),c.1,[],[])))
def zz2:=lk (α:=HK) [(506,me [vp 1 0,vp 2 1,vp 4 2,vp 6 3,vl 9,vi 10] [.box 26 [.v jc],.box 33 [.v (.arr 256 U8),.v I6,.own 4,.own 5],.box 36 [.v jj],.box 33 [.v jo],.row 31 L6,.row 3 I6] 6)]
theorem zgf(a:Nat):jv 9 ⟨[jc],(.tup (.cons jo (.cons M6 (.cons jj .nil)))),λt=>Jr a t⟩:=mk1 func9 a 0 [(0,[42])] [] [] [] itn zz2 rn gn (tc (zse a) (tc (zpd a) (tc (zt8 a) (tc (zm7 a) (tc (Qy a) (tc (zqk a) (tc (zt6 a) tn))))))) (by kernel_rfl) λt=>by kernel_rfl
def zdn(q:Nat)(o:jg)(p:jg):Option Bool:=J (σ:=Bool×jg×jg) (λ(a,b,c)=>ifB a (some false) (jn (σ:=Int×jg×jg) (λ(e,f,g)h=>ifB (decide (e<(f.2.2.1.length:Int))) (ja (atL f.2.2.1 e) λi=>ja (atL g.2.2.1 e) λj=>ja (Q8 q i j) λk=>ifB (!k) (some false) (ja (some (w64 (e+1))) λl=>h (l,f,g))) (some true)) q (0,b,c))) λd=>ja (some (!(o.1.l == p.1.l))) λm=>ifB m (d (true,o,p)) (ifB (decide (¬o.2.1=p.2.1)) (d (true,o,p)) (ifB (decide (¬(o.2.2.1.length:Int)=(p.2.2.1.length:Int))) (d (true,o,p)) (ja (Q8 q o.2.2.2.1 p.2.2.2.1) λn=>d (!n,o,p))))
def z5m:=lk (α:=HK) [(12,me [vp 2 0,vp 3 1,vb 34] [.box 33 [.v jo],.box 33 [.v jo]] 2),(58,me [vp 2 0,vp 3 1,vi 5] [.box 33 [.v jo],.box 33 [.v jo]] 2)]
theorem zta(a:Nat):jv 10 ⟨[jo,jo],.bool,λt=>zdn a (t.1) (t.2)⟩:=mk1 func10 a 0 [(0,[10,41])] [] [] [] itn z5m rn gn (tc (zdf a) tn) (by kernel_rfl) λt=>by kernel_rfl
def V4(k:Nat)(i:W4)(j:W4):Option Bool:=ifB (decide (¬(i.length:Int)=(j.length:Int))) (some false) (jn (σ:=W4×W4×Int) (λ(a,b,c)d=>ifB (decide (c<(a.length:Int))) (ja (atL a c) λe=>ja (atL b c) λf=>ja (Q8 k e f) λg=>ifB (!g) (some false) (ja (some (w64 (c+1))) λh=>d (a,b,h))) (some true)) k (i,j,0))
def zor:=lk (α:=HK) [(58,me [(0,.v M6),(1,.v M6),vi 5] [] 0)]
theorem zjy(a:Nat):jv 11 ⟨[M6,M6],.bool,λt=>V4 a (t.1) (t.2)⟩:=mk1 func11 a 0 [(0,[16])] [] [] [] itn zor rn gn (tc (zdf a) tn) (by kernel_rfl) λt=>by kernel_rfl
def zat(c:Nat)(b:jb):Option jd:=ja (Jr c b) λa=>some a.2.2.1
theorem znh(a:Nat):jv 13 ⟨[jc],jj,λt=>zat a t⟩:=mk1 func13 a 0 [] [] [] [] itn h0 rn gn (tc (zgf a) tn) (by kernel_rfl) λt=>by kernel_rfl
def y8(l:Nat)(m:jb):Option Bool:=ja (Zd l m) λa=>ifB (!a) (ja (Zm l) λb=>some b) (ja (Je l m) λc=>ja (Jr l m) λd=>J (λ(e:Bool)=>some e) λf=>ja (zdn l c.1 d.1) λg=>ifB g (ja (V4 l c.2.1 d.2.1) λh=>ifB h (ifB (zzq [c.2.2.1.1 == d.2.2.1.1,c.2.2.1.2.1 == d.2.2.1.2.1,c.2.2.1.2.2.1 == d.2.2.1.2.2.1]) (ja (Jz l m) λi=>ja (zat l m) λj=>ifB (zzq [i.1 == j.1,i.2.1 == j.2.1,i.2.2.1 == j.2.2.1]) (ja (Zm l) λk=>f k) (f false)) (f false)) (f false)) (f false))
def zkr:=lk (α:=HK) [(62,me [vb 2] [] 0)]
theorem P_law25_AcceptTells_ok(a:Nat):jv 3 ⟨[jc],.bool,λt=>y8 a t⟩:=mk1 func3 a 0 [] [] [] [] itn zkr rn gn (tc (zo5 a) (tc (zpu a) (tc (zf2 a) (tc (zgf a) (tc (zta a) (tc (zjy a) (tc (zei a) (tc (znh a) tn)))))))) (by kernel_rfl) λt=>by kernel_rfl
structure Fi(ι:Type)where
 ev:(ι->Prop)->Prop
 mono:∀{P Q:ι->Prop},(∀i,P i->Q i)->ev P->ev Q
 and:∀{P Q:ι->Prop},ev P->ev Q->ev λi=>P i/\Q i
 top:ev λ_=>True
def way:Fi Nat where
 ev P:=∃N,∀n,N<=n->P n
 mono:=λh⟨N,a⟩=>⟨N,λn b=>h n (a n b)⟩
 and:=λ⟨N,a⟩ ⟨M,c⟩=>⟨max N M,λn b=>⟨a n (by omega),c n (by omega)⟩⟩
 top:=⟨0,λ_ _=>trivial⟩
def Fi.mul{ι:Type}(D:Fi ι):Fi (ι×Nat) where
 ev P:=∃N,D.ev λi=>∀n,N<=n->P (i,n)
 mono:=λh⟨N,b⟩=>⟨N,D.mono (λi a n c=>h (i,n) (a n c)) b⟩
 and:=λ⟨N,b⟩ ⟨M,d⟩=>⟨max N M,D.mono (λi a n c=>⟨a.1 n (by omega),a.2 n (by omega)⟩) (D.and b d)⟩
 top:=⟨0,D.mono (λ_ _ _ _=>trivial) D.top⟩
section
variable{ι α β σ:Type}{D:Fi ι}
def Big(D:Fi ι)(φ:ι->Nat):Prop:=∀N,D.ev λi=>N<=φ i
theorem waa:Big way λn=>n:=λN=>⟨N,λn h=>h⟩
theorem Big.fst{φ:ι->Nat}(h:Big D φ):Big D.mul λp=>φ p.1:=λN=>⟨0,D.mono (λi a n _=>a) (h N)⟩
def Tt(D:Fi ι)(f:ι->Option α)(Q:α->Prop):Prop:=∃r,D.ev (λi=>f i=some r)/\Q r
abbrev Tn(f:Nat->Option α)(Q:α->Prop):Prop:=Tt way f Q
theorem Tt.mono{f:ι->Option α}{Q R:α->Prop}(h:Tt D f Q)(c:∀r,Q r->R r):Tt D f R:=by
 obtain⟨r,a,b⟩:=h;exact⟨r,a,c r b⟩
theorem Tt.pure{a:α}{Q:α->Prop}(h:Q a):Tt D (λ_=>some a) Q:=⟨a,D.mono (λ_ _=>rfl) D.top,h⟩
theorem Tt.bind{f:ι->Option α}{k:ι->α->Option β}{R:α->Prop}{Q:β->Prop}(h:Tt D f R)(g:∀x,R x->Tt D (λi=>k i x) Q):Tt D (λi=>ja (f i) (k i)) Q:=by
 obtain⟨x,b,c⟩:=h;obtain⟨r,d,e⟩:=g x c;exact⟨r,D.mono (λi a=>by show ja (f i) (k i)=some r;rw[a.1];exact a.2) (D.and b d),e⟩
theorem wac{o:Option α}{k:ι->α->Option β}{Q:β->Prop}(x:α)(b:o=some x)(a:Tt D (λi=>k i x) Q):Tt D (λi=>ja o (k i)) Q:=
 Tt.bind (R:=λy=>y=x) (by rw[b];exact Tt.pure rfl) λy c=>by subst c;exact a
theorem wad{x:α}{k:ι->α->Option β}{Q:β->Prop}(a:Tt D (λi=>k i x) Q):Tt D (λi=>ja (some x) (k i)) Q:=wac x rfl a
theorem wah{c:Bool}{x y:ι->Option β}{Q:β->Prop}(a:c=true)(h:Tt D x Q):Tt D (λi=>ifB c (x i) (y i)) Q:=by subst a;exact h
theorem wae{c:Bool}{x y:ι->Option β}{Q:β->Prop}(a:c=false)(h:Tt D y Q):Tt D (λi=>ifB c (x i) (y i)) Q:=by subst a;exact h
theorem wab{c:Bool}{x y:ι->Option β}{Q:β->Prop}(a:c=true->Tt D x Q)(b:c=false->Tt D y Q):Tt D (λi=>ifB c (x i) (y i)) Q:=by
 cases c
 ·exact b rfl
 ·exact a rfl
def Nx(D:Fi ι)(Q:β->Prop)(R:σ->Prop)(nx:ι->σ->Option β):Prop:=∀s,R s->Tt D (λi=>nx i s) Q
theorem Tt.fst{f:ι->Option β}{Q:β->Prop}(h:Tt D f Q):Tt D.mul (λp=>f p.1) Q:=by
 obtain⟨r,a,b⟩:=h;exact⟨r,⟨0,D.mono (λi c n _=>c) a⟩,b⟩
theorem Nx.fst{Q:β->Prop}{R:σ->Prop}{nx:ι->σ->Option β}(h:Nx D Q R nx):Nx D.mul Q R (λp s=>nx p.1 s):=λs a=>Tt.fst (h s a)
theorem Tt.J{rest:ι->σ->Option β}{A:ι->(σ->Option β)->Option β}{Q:β->Prop}(R:σ->Prop)(b:∀a:ι->σ->Option β,Nx D Q R a->Tt D (λi=>A i (a i)) Q)(c:∀s,R s->Tt D (λi=>rest i s) Q):Tt D (λi=>T.J (rest i) (A i)) Q:=b rest c
theorem Tt.call{p:Nat->Option α}{φ:ι->Nat}{Q:α->Prop}(h:Tn p Q)(hφ:Big D φ):Tt D (λi=>p (φ i)) Q:=by
 obtain⟨r,⟨N,a⟩,b⟩:=h;exact⟨r,D.mono (λi c=>a _ c) (hφ N),b⟩
theorem Waa{p:Nat->Option α}{φ:ι->Nat}{R:α->Prop}{k:ι->α->Option β}{Q:β->Prop}(h:Tn p R)(hφ:Big D φ)(d:∀x,R x->Tt D (λi=>k i x) Q):Tt D (λi=>ja (p (φ i)) (k i)) Q:=Tt.bind (Tt.call h hφ) d
theorem Tt.loop{B:ι->σ->(σ->Option β)->Option β}{φ:ι->Nat}{Q:β->Prop}{s:σ}(I:Nat->σ->Prop)(m:Nat)(hφ:Big D φ)(h0:I m s)
  (step:∀m s,I m s->∀k:ι×Nat->σ->Option β,(∀b c,b<m->I b c->Tt D.mul (λp=>k p c) Q)->Tt D.mul (λp=>B p.1 s (k p)) Q):Tt D (λi=>jn (B i) (φ i) s) Q:=by
 have j:∀m s,I m s->Tt D.mul (λp=>jn (B p.1) p.2 s) Q:=by
  intro m;induction m using Nat.strongRecOn with
  |ind m q=>
   intro s o;obtain⟨r,⟨N,d⟩,e⟩:=step m s o (λp=>jn (B p.1) p.2) λb c l g=>q b l c g;refine⟨r,⟨N+1,D.mono (λi a n f=>?_) d⟩,e⟩
   match n,f with
   |0,f=>omega
   |n+1,f=>exact a n (by omega)
 obtain⟨r,⟨N,d⟩,e⟩:=j m s h0;exact⟨r,D.mono (λi a=>a.1 _ a.2) (D.and d (hφ N)),e⟩
end
theorem Jo{α:Type}{l:List α}{z:Int}{x:α}(h0:0<=z)(h:l[z.toNat]?=some x):atL l z=some x:=by
 unfold atL;rw[wc9 h0];exact h
theorem atN{α:Type}{l:List α}{k:Nat}(h:k<l.length):atL l (k:Int)=some l[k]:=Jo (by omega) (by simp[h])
def Fi.two:Fi (Nat×Nat) where
 ev P:=∃N,∀a b,N<=a->N<=b->P (a,b)
 mono:=λh⟨N,c⟩=>⟨N,λa b d e=>h _ (c a b d e)⟩
 and:=λ⟨N,c⟩ ⟨M,f⟩=>⟨max N M,λa b d e=>⟨c a b (by omega) (by omega),f a b (by omega) (by omega)⟩⟩
 top:=⟨0,λ_ _ _ _=>trivial⟩
theorem Big.two:Big Fi.two λi=>i.1:=λN=>⟨N,λa b c d=>c⟩
theorem ziy{α:Type}{q b:Nat×Nat->Option α}{Q:α->Prop}(h:Tt Fi.two b Q)(g:∀n m,q (n,m+1)=b (n,m)):Tt Fi.two q Q:=by
 obtain⟨r,⟨N,f⟩,e⟩:=h;refine⟨r,⟨N+1,λa c i j=>?_⟩,e⟩;obtain⟨c,rfl⟩:∃d,c=d+1:=⟨c-1,by omega⟩
 rw[g];exact f a c (by omega) (by omega)
theorem zi0{α:Type}{q:Nat×Nat->Option α}{Q:α->Prop}(h:Tt Fi.two q Q):Tn (λn=>q (n,n)) Q:=by
 obtain⟨r,⟨N,c⟩,b⟩:=h;exact⟨r,⟨N,λn a=>c n n a a⟩,b⟩
theorem wbt{α:Type}{f:Nat->Option α}{Q R:α->Prop}(h:Tn f Q)(k:Tn f R):Tn f (λx=>Q x/\R x):=by
 obtain⟨r,⟨N,a⟩,b⟩:=h;obtain⟨s,⟨M,c⟩,d⟩:=k;have e:=(a (N+M) (by omega)).symm.trans (c (N+M) (by omega));cases e;exact⟨r,⟨N,a⟩,b,d⟩
theorem z7e{a:Int}(b : -9223372036854775808<=a)(c:a<=9223372036854775807):IntKind.i64.wrap a=a:=by rw[IntKind.wrap_i64];omega
theorem Z8{n:Int}(a : -9223372036854775808<=n)(b:n<=9223372036854775807):IntKind.i64.wrap n=n:=z7e a b
theorem zcv{n:Int}(a:0<=n)(b:n<18446744073709551616):IntKind.u64.wrap n=n:=by simp[IntKind.wrap,IntKind.bits,IntKind.signed];omega
theorem Jx{n:Int}(a:0<=n)(b:n<256):IntKind.u8.wrap n=n:=by simp[IntKind.wrap,IntKind.bits,IntKind.signed];omega
theorem zrg{z:Int}(a : -9223372036854775808<=z)(b:z<=9223372036854775807):w64 z=z:=z7e a b
structure GLen(g:jb):Prop where
 t:g.1.length<=1000000
 r:g.2.1.length<=1000000
 p:g.2.2.1.length<=1000000
theorem wI{z:Int}(a : -9223372036854775808<=z)(b:z<=9223372036854775807):T.w64 z=z:=zrg a b
structure jot(g:jb):Prop where
 t:g.1.length<=9223372036854775807
 r:g.2.1.length<=9223372036854775807
 p:g.2.2.1.length<=9223372036854775807
theorem jm2(g:jb)(i:jot g):Tn (λv=>zf1 v g) (λb=>b=true->g.1.length<=70/\g.2.1.length<=70/\g.2.2.1.length<=260):=by
 have w:=i.t;have x:=i.r;have y:=i.p;unfold zf1;refine Tt.loop (λm s=>∃(k:Nat)(a:Int),k<=g.1.length/\m=g.1.length-k/\s=(a,(k:Int),g)) g.1.length waa ⟨0,_,by omega,by omega,rfl⟩ λm s⟨k,a,q,u,f⟩ j d=>?_;subst f;dsimp only;refine wab (λc=>?_) (λc=>?_)
 ·have c:=wcd c;have e:k<g.1.length:=by omega
  refine wac _ (atN e) (wac _ (atN e) (wad (wad ?_)));rw[wI (z:=(k:Int)+1) (by omega) (by omega)];exact d (g.1.length-(k+1)) _ (by omega) ⟨k+1,_,by omega,rfl,rfl⟩
 refine Tt.loop (λm s=>∃(k:Nat)(a:Int),k<=g.2.1.length/\m=g.2.1.length-k/\s=(a,(k:Int),g)) g.2.1.length waa.fst ⟨0,_,by omega,by omega,rfl⟩ λm s⟨k,a,q,u,f⟩ j d=>?_;subst f;dsimp only;refine wab (λc=>?_) (λc=>?_)
 ·have c:=wcd c;have e:k<g.2.1.length:=by omega
  refine wac _ (atN e) (wad (wad ?_));rw[wI (z:=(k:Int)+1) (by omega) (by omega)];exact d (g.2.1.length-(k+1)) _ (by omega) ⟨k+1,_,by omega,rfl,rfl⟩
 refine Tt.loop (λm s=>∃(k:Nat)(a:Int),k<=g.2.2.1.length/\m=g.2.2.1.length-k/\s=(a,(k:Int),g)) g.2.2.1.length waa.fst.fst ⟨0,_,by omega,by omega,rfl⟩ λm s⟨k,a,q,u,f⟩ j d=>?_;subst f;dsimp only;refine wab (λc=>?_) (λc=>?_)
 ·have c:=wcd c;have e:k<g.2.2.1.length:=by omega
  refine wac _ (atN e) (wad (wad ?_));rw[wI (z:=(k:Int)+1) (by omega) (by omega)];exact d (g.2.2.1.length-(k+1)) _ (by omega) ⟨k+1,_,by omega,rfl,rfl⟩
 refine Tt.J (λb=>b=true->g.1.length<=70/\g.2.1.length<=70/\g.2.2.1.length<=260) (λj d=>?_) λs f=>Tt.pure f;refine wad (wab (λl=>wab (λn=>wab (λo=>d _ λ_=>?_) λ_=>d _ λh=>by cases h) λ_=>d _ λh=>by cases h) λ_=>d _ λh=>by cases h);have l:=wcd l;have n:=wcd n;have o:=wcd o;exact⟨by omega,by omega,by omega⟩
structure GSm(g:jb):Prop where
 few:g.1.length<=70/\g.2.1.length<=70/\g.2.2.1.length<=260
 r:g.2.1.length<=12
 t:g.1.length<=12
 p:g.2.2.1.length<=30
theorem z9f(g:jb)(j:jot g):Tn (λl=>zci l g) (λb=>b=true->GSm g):=by
 unfold zci;refine Tt.J (λb=>b=true->GSm g) (λm a=>?_) λs k=>Tt.pure k;refine Waa (jm2 g j) waa λb i=>?_;refine wab (λf=>wab (λc=>wab (λd=>a _ λe=>?_) λ_=>a _ λh=>by cases h) λ_=>a _ λh=>by cases h) λ_=>a _ λh=>by cases h
 have c:=wcd c;have d:=wcd d;have e:=wcd e;exact⟨i f,by omega,by omega,by omega⟩
def zbd(l:List qe):Nat:=(l.map λt=>min t.2.1.length 1000).sum
theorem z1s{l:List qe}{k:Nat}(h:k<l.length):zbd (l.take (k+1))=zbd (l.take k)+min (l[k]).2.1.length 1000:=by
 unfold zbd;rw[wcn h];simp only[wdb,List.sum_append,wc4,wed,List.sum_cons,List.sum_nil,wd5]
theorem z65:∀{l:List qe}{t:qe},t∈l->min t.2.1.length 1000<=zbd l
 |x::l,t,h=>by
  have e:zbd (x::l)=min x.2.1.length 1000+zbd l:=by unfold zbd;rw[wc4,List.sum_cons]
  rcases wc1.1 h with rfl|h
  ·omega
  ·have:=z65 h;omega
structure GBu(g:jb):Prop extends GSm g where
 n:zbd g.1<=120
 s:g.2.2.2.2.1<=200
theorem jfv(g:jb)(o:jot g):Tn (λr=>Zd r g) (λb=>b=true->GBu g):=by
 have B:=o.t;unfold Zd;refine Tt.loop (λm s=>∃(k:Nat)(a:Int),k<=g.1.length/\m=g.1.length-k/\s=(a,(k:Int),g)/\(g.1.length<=1000->a=(zbd (g.1.take k):Int)/\zbd (g.1.take k)<=1000*k)) g.1.length waa ⟨0,_,by omega,by omega,rfl,λ_=>by simp[zbd]⟩ λm s⟨k,a,y,A,e,j⟩ u d=>?_;subst e;dsimp only;refine wab (λc=>?_) (λc=>?_)
 ·have c:=wcd c;have f:k<g.1.length:=by omega
  refine wac _ (atN f) (wad (wad ?_));rw[wI (z:=(k:Int)+1) (by omega) (by omega)];refine d (g.1.length-(k+1)) _ (by omega) ⟨k+1,_,by omega,rfl,rfl,λh=>?_⟩;obtain⟨v,w⟩:=j h;have x:=z1s f;rw[wI (by omega) (by omega)];omega
 ·have c:=wce c;have l:k=g.1.length:=by omega
  rw[l,wc2]at j;refine Tt.J (λb=>b=true->GBu g) (λu d=>?_) λs e=>Tt.pure e;refine Waa (z9f g o) waa.fst λb q=>?_;refine wab (λp=>wab (λn=>d _ λi=>?_) λ_=>d _ λh=>by cases h) λ_=>d _ λh=>by cases h
  have n:=wcd n;have i:=wcd i;have e:=q p;have:=e.t;have:=j (by omega);exact⟨e,by omega,i⟩
theorem zu3{l:List UInt8}{p:Int}:zi2 l p=true↔p.toNat<l.length:=by
 unfold zi2;simp[wfk]
def zao(g:jb)(x:ji):Prop:=0<=x.2.1/\x.2.1<(if x.1=true then(g.2.1.length:Int)else g.1.length)
theorem yf{α:Type}{b:Nat}{l r:List α}(d:l.length+r.length<=2000000)(e:b<=1000):apO b l r=some (l++r):=by
 unfold apO;have a:decide (l.length+r.length<=maxLen)=true:=wc9 (by simp only[maxLen];omega);have c:decide ((l.length+r.length)*b<=140737488355328)=true:=wc9 (by
  have:=Nat.mul_le_mul d e;omega)
 rw[a,c];rfl
def arK(k:Int):Option Nat:=if k=3\/k=4 then some 2 else if k=5\/k=6\/k=7 then some 1 else if k=1\/k=2 then some 0 else none
theorem w01:T.w64 1=1:=wI (by omega) (by omega)
theorem w11:T.w64 2=2:=wI (by omega) (by omega)
theorem jnz(h:Nat)(x:jf):zm2 h x=some (match arK x.1 with|some n=>((n:Int),true,())|none=>(0,false,())):=by
 unfold zm2 arK;by_cases c:x.1=3
 ·simp[T.J,ja,ifB,c,w01,w11]
 by_cases d:x.1=4
 ·simp[T.J,ja,ifB,d,w01,w11]
 by_cases e:x.1=5
 ·simp[T.J,ja,ifB,e,w01]
 by_cases f:x.1=6
 ·simp[T.J,ja,ifB,f,w01]
 by_cases g:x.1=7
 ·simp[T.J,ja,ifB,g,w01]
 by_cases a:x.1=1
 ·simp[T.J,ja,ifB,a]
 by_cases b:x.1=2
 ·simp[T.J,ja,ifB,b]
 ·simp[T.J,ja,ifB,a,b,c,d,e,f,g]
theorem z7d(x:jf):Tn (λa=>zm2 a x) (λr=>r=(match arK x.1 with|some n=>((n:Int),true,())|none=>(0,false,()))):=⟨_,⟨0,λa _=>jnz a x⟩,rfl⟩
def zf5:List jf->Nat->Option Nat
 |[],d=>some d
 |x::l,d=>match arK x.1 with
  |none=>none
  |some n=>if n<=d then zf5 l (d-n+1)else none
theorem zfs:∀(l m:List jf)(d:Nat),zf5 (l++m) d=(zf5 l d).bind (zf5 m)
 |[],m,d=>rfl
 |x::l,m,d=>by
  simp only[we4,zf5];cases arK x.1 with
  |none=>rfl
  |some n=>
   simp only;split
   ·exact zfs l m _
   ·rfl
theorem jhx(l:List jf)(F:l.length<=1000000):Tn (λC=>zeb C l) (λr=>(r.2.2.1=0->∃d:Nat,zf5 l 0=some d/\r.1=d/\l.length<=512)):=by
 unfold zeb;refine wab (λc=>Tt.pure (λh=>by cases h)) (λc=>?_);have c:=wce c;have t:l.length<=512:=by omega
 refine Tt.loop (λm s=>∃(k d:Nat)(x:Int),k<=l.length/\m=l.length-k/\zf5 (l.take k) 0=some d/\d<=k/\s=((d:Int),x,l,(l.length:Int),(k:Int))) l.length waa ⟨0,0,0,by omega,by omega,rfl,by omega,rfl⟩ λm s⟨k,d,mx,E,G,p,A,i⟩ H v=>?_;subst i;dsimp only;refine wab (λc=>?_) (λc=>Tt.pure (λ_=>?_))
 ·have c:=wcd c;have j:k<l.length:=by omega
  refine wac _ (atN j) (Waa (z7d _) waa.fst λK w=>?_);subst w;have f:zf5 (l.take (k+1)) 0=match arK (l[k]).1 with|none=>none|some n=>if n<=d then some (d-n+1)else none:=by
   rw[wcn j,zfs,p];simp only[wdr,zf5]
  cases a:arK (l[k]).1 with
  |none=>
   dsimp only;refine Tt.J (λs=>s.2.2.2.2.2.2=true) (λD g=>?_) (λs i=>?_)
   ·exact wad (wah rfl (g _ rfl))
   ·exact wah i (Tt.pure (λh=>by cases h))
  |some n=>
   rw[a]at f;dsimp only at f⊢;refine Tt.J (λs=>∃b,s=((d:Int),mx,(n:Int),l,(l.length:Int),(k:Int),b)) (λD g=>?_) (λs⟨b,i⟩=>?_)
   ·refine wad (wae rfl ?_);refine Tt.J (λs=>∃b,s=((d:Int),mx,(n:Int),l,(l.length:Int),(k:Int),b)) (λI o=>?_) (λs⟨b,i⟩=>?_)
    ·exact wad (wab (λ_=>o _ ⟨_,rfl⟩) (λ_=>o _ ⟨_,rfl⟩))
    ·subst i;exact g _ ⟨_,rfl⟩
   ·subst i;dsimp only;refine wab (λ_=>Tt.pure (λh=>by cases h)) (λ_=>wab (λ_=>Tt.pure (λh=>by cases h)) (λy=>?_));have y:=wce y;have u:n<=d:=by omega
    have B:n<=2:=by
     unfold arK at a;split at a
     ·cases a;omega
     ·split at a
      ·cases a;omega
      ·split at a<;>cases a;omega
    rw[if_pos u]at f;refine wad (wad (wad ?_));rw[wI (z:=1-(n:Int)) (by omega) (by omega),wI (by omega) (by omega),wI (by omega) (by omega)];exact v (l.length-(k+1)) _ (by omega) ⟨k+1,d-n+1,_,by omega,rfl,f,by omega,by
     have e:(d:Int)+(1-(n:Int))=((d-n+1:Nat):Int):=by omega
     rw[e];rfl⟩
 ·have c:=wce c;have q:k=l.length:=by omega
  rw[q,wc2]at p;exact⟨d,p,rfl,t⟩
def RxW(l:List jf):Prop:=zf5 l 0=some 1/\l.length<=512
theorem jgi(l:List jf)(k:l.length<=1000000):Tn (λo=>Yd o l) (λe=>e=0->RxW l):=by
 unfold Yd;refine Waa (jhx l k) waa λr f=>?_;obtain⟨d,mx,e,u⟩:=r;simp only at f;dsimp only;refine Tt.J (λs=>s.1=e/\(e=0->s.2=false->RxW l)) (λq a=>?_) (λs⟨i,j⟩=>?_)
 ·refine wad (wab (λc=>a _ ⟨rfl,λh0 b=>?_⟩) (λc=>a _ ⟨rfl,λh0 _=>?_⟩))
  ·obtain⟨g,m,p,n⟩:=f h0;have b:=wce b;have:d=1:=wek.1 b;have:g=1:=by omega
   subst this;exact⟨m,n⟩
  ·exact absurd h0 (wce c)
 ·refine wab (λ_=>Tt.pure (λh=>by cases h)) (λc=>Tt.pure (λh=>?_));exact j (i▸h) c
structure GOk(g:jb):Prop where
 t:g.1.length<=64
 r:g.2.1.length<=64
 p:g.2.2.1.length<=256
 rx:∀x∈g.1,RxW x.2.1
 left:∀p∈g.2.2.1,0<=p.1/\p.1<g.2.1.length
 len:∀p∈g.2.2.1,p.2.1.length<=16
 items:∀p∈g.2.2.1,∀x∈p.2.1,zao g x
 start:0<=g.2.2.2.1/\g.2.2.2.1<g.2.1.length
structure Y1(g:jb):Prop extends GLen g where
 tn:∀x∈g.1,x.2.1.length<=1000000
theorem sliT{α:Type}{l:List α}{k:Nat}(h:k<=l.length):zk0 l none (some (k:Int))=some (l.take k):=by
 unfold zk0 bdN;simp[h]
abbrev c0(g:jb):qh:=(g,(0,0,0,()),())
structure PrOk(g:jb)(p:jh):Prop where
 l0:0<=p.1
 l1:p.1<g.2.1.length
 n:p.2.1.length<=16
 it:∀x∈p.2.1,zao g x
def zi5(c:Int):Prop:=(97<=c/\c<=122)\/(65<=c/\c<=90)\/c=95
def zms(c:Int):Prop:=48<=c/\c<=57
theorem partE(c:Int):Tn (λo=>zfi o c) (λr=>r=2/\zi5 c\/r=1/\¬zi5 c/\zms c\/r=0/\¬zi5 c/\¬zms c):=by
 unfold zfi;refine Tt.J (λs=>s.1=c/\(s.2=true↔zi5 c)) (λp d=>?_) (λs⟨f,e⟩=>?_)
 ·refine Tt.J (λs=>s.1=c/\(s.2=true↔97<=c/\c<=122)) (λt g=>?_) (λs⟨f,e⟩=>?_)
  ·refine wad (wab (λa=>g _ ⟨rfl,?_⟩) λa=>g _ ⟨rfl,?_⟩)
   ·have a:=wcd a;simp;omega
   ·have a:=wce a;simp;omega
  ·obtain⟨x,b⟩:=s;simp only at f e;subst f;refine wab (λa=>d _ ⟨rfl,?_⟩) λa=>?_
   ·have:=e.1 a;exact⟨λ_=> .inl this,λ_=>a⟩
   ·have k:¬(97<=x/\x<=122):=λh=>by rw[e.2 h]at a;cases a
    refine Tt.J (λs=>s.1=x/\(s.2=true↔65<=x/\x<=90)) (λu i=>?_) (λs⟨l,j⟩=>?_)
    ·refine wad (wab (λa=>i _ ⟨rfl,?_⟩) λa=>i _ ⟨rfl,?_⟩)
     ·have a:=wcd a;simp;omega
     ·have a:=wce a;simp;omega
    ·obtain⟨y,q⟩:=s;simp only at l j;subst l;refine wab (λa=>d _ ⟨rfl,?_⟩) λa=>wad (d _ ⟨rfl,?_⟩)
     ·have:=j.1 a;exact⟨λ_=> .inr (.inl this),λ_=>a⟩
     ·have n:¬(65<=y/\y<=90):=λh=>by rw[j.2 h]at a;cases a
      simp only[wcy];unfold zi5;omega
 ·obtain⟨x,b⟩:=s;simp only at f e;subst f;refine wab (λa=>Tt.pure (.inl ⟨rfl,e.1 a⟩)) λa=>?_;have k:¬zi5 x:=λh=>by rw[e.2 h]at a;cases a
  refine Tt.J (λb=>b=true↔zms x) (λp d=>?_) (λs m=>?_)
  ·refine wad (wab (λa=>d _ ?_) λa=>d _ ?_)
   ·have a:=wcd a;simp[zms];omega
   ·have a:=wce a;simp[zms];omega
  ·exact wab (λa=>Tt.pure (.inr (.inl ⟨rfl,k,m.1 a⟩))) λa=>Tt.pure (.inr (.inr ⟨rfl,k,λh=>by rw[m.2 h]at a;cases a⟩))
def chP(k:Nat)(b:UInt8):Prop:=zi5 (b.toNat:Int)\/zms (b.toNat:Int)/\k≠0
def Zn(l:List UInt8):Prop:=1<=l.length/\l.length<=32/\∀(k:Nat)(b:UInt8),l[k]?=some b->chP k b
theorem jbn{l:List UInt8}{k:Nat}(a:k<l.length)(h:(l[k]).toNat<128):Utf8.decode ⟨⟨l⟩⟩ k=((l[k]).toNat,1):=by
 have e:(ByteArray.mk ⟨l⟩).get! (k+0)=l[k]:=by
  show(Array.mk l)[k+0]! = _;simp[a]
 unfold Utf8.decode;simp only[e];rw[if_pos (by omega)]
theorem jdx{l:List UInt8}{k:Nat}(b:k<l.length)(h:¬(l[k]).toNat<128):128<=(Utf8.decode ⟨⟨l⟩⟩ k).1:=by
 have e:(ByteArray.mk ⟨l⟩).get! (k+0)=l[k]:=by
  show(Array.mk l)[k+0]! = _;simp[b]
 unfold Utf8.decode;simp only[e];rw[if_neg (by omega)]
 repeat' split
 all_goals first|(simp only[Utf8.runeError];omega)|(simp only;omega)|(rename_i c a;simp only[wcl,wcy,ge_iff_le]at a;simp only;omega)
theorem jpc(l:List UInt8):Tn (λH=>zcu H l) (λr=>r=true↔Zn l):=by
 unfold zcu;refine Tt.loop (λm s=>∃p:Nat,s=(l,(l,(p:Int),()))/\m=l.length-p/\p<=l.length/\∀(k:Nat)(b:UInt8),k<p->l[k]?=some b->chP k b) l.length waa ⟨0,rfl,by omega,by omega,λk b h=>by omega⟩ λm s⟨p,q,L,M,B⟩ N y=>?_;subst q;dsimp only;refine wab (λc=>?_) (λc=>?_)
 ·have c:=zu3.1 c;have i:p<l.length:=by simpa using c
  have v:¬chP p l[p]->¬Zn l:=λh G=>h (G.2.2 p _ (wcf i));refine Waa (partE _) waa.fst λr o=>?_;have F:z4y l (p:Int)=((Utf8.decode ⟨⟨l⟩⟩ p).1:Int):=by unfold z4y;simp
  have D:zhq l (p:Int)=((p+(Utf8.decode ⟨⟨l⟩⟩ p).2:Nat):Int):=by unfold zhq;simp
  have E:jb7 (p:Int)=(p:Int):=by unfold jb7;simp
  rw[F]at o;rw[D,E];by_cases j:(l[p]).toNat<128
  ·rw[jbn i j]at o⊢;simp only at o⊢;refine Tt.J (λs=>∃f,s=(l,f,(l,((p+1:Nat):Int),()))/\(f=true↔¬chP p l[p])) (λC a=>?_) (λs⟨f,q,A⟩=>?_)
   ·unfold chP at *;refine wad (wab (λd=>a _ ⟨_,rfl,?_⟩) λd=>wad (wab (λt=>a _ ⟨_,rfl,?_⟩) λt=>a _ ⟨_,rfl,?_⟩))
    ·have d:=wcd d;rcases o with⟨h,_⟩|⟨h,_⟩|⟨h,g,w⟩
     ·omega
     ·omega
     ·simp[g,w]
    ·have t:=wcd t;rcases o with⟨h,_⟩|⟨h,g,w⟩|⟨h,_⟩
     ·omega
     ·simp[g,w]
     ·omega
    ·have d:=wce d;have t:=wce t;rcases o with⟨h,g⟩|⟨h,_⟩|⟨h,_⟩
     ·simp[g]
     ·omega
     ·omega
   ·subst q;dsimp only;refine wab (λd=>Tt.pure ?_) λd=>?_
    ·have:=v (A.1 d);simp[this]
    ·refine y (l.length-(p+1)) _ (by omega) ⟨p+1,rfl,rfl,by omega,λk b K x=>?_⟩;by_cases e:k=p
     ·subst e;rw[wcf i]at x;cases x;exact weu λh=>by rw[A.2 h]at d;cases d
     ·exact B k b (by omega) x
  ·have I:=jdx i j;have h0:r=0:=by
    rcases o with⟨h,g⟩|⟨h,_,g⟩|⟨h,_⟩
    ·unfold zi5 at g;omega
    ·unfold zms at g;omega
    ·exact h
   subst h0;refine Tt.J (λs=>s.2.1=true) (λC a=>wad (wah rfl (a _ rfl))) (λs q=>wah q (Tt.pure ?_));have:=v (by unfold chP zi5 zms;omega);simp[this]
 ·have z:p=l.length:=by
   have:¬p<l.length:=λh=>by rw[zu3.2 (by simpa using h)]at c;cases c
   omega
  subst z;refine Tt.J (λb=>b=true↔Zn l) (λC a=>?_) (λs q=>Tt.pure q);have u:∀(k:Nat)(b:UInt8),l[k]?=some b->chP k b:=λk b h=>B k b (wcg.1 h).1 h;refine wad (wab (λd=>a _ ?_) λd=>a _ ?_)
  ·have n:l≠[]:=by simpa using d
   have:1<=l.length:=List.length_pos_iff.2 n;unfold Zn;simp only[wcy];constructor
   ·intro h;exact⟨this,by omega,u⟩
   ·intro h;have:=h.2.1;omega
  ·have n:l=[]:=by simpa using d
   subst n;unfold Zn;simp
theorem jhl(l:List UInt8)(O:l.length<=9223372036854775807):Tn (λM=>zd1 M l) (λr=>r=true↔Zn l):=by
 unfold zd1;refine Tt.loop (λm s=>∃p:Nat,s=(l,(p:Int))/\m=l.length-p/\p<=l.length/\∀(k:Nat)(b:UInt8),k<p->l[k]?=some b->chP k b) l.length waa ⟨0,rfl,by omega,by omega,λk b h=>by omega⟩ λm s⟨p,o,P,Q,H⟩ R E=>?_;subst o;dsimp only;refine wab (λc=>?_) (λc=>?_)
 ·have c:=wcd c;have u:p<l.length:=by omega
  have D:¬chP p l[p]->¬Zn l:=λh K=>h (K.2.2 p _ (wcf u));have A:zmj l (p:Int)=some ((l[p]).toNat:Int):=by unfold zmj;simp[u]
  refine wac _ A ?_;generalize L:((l[p]).toNat:Int)=ch;refine Tt.J (λs=>∃f,s=(l,(p:Int),ch,f)/\(f=true↔zi5 ch)) (λx g=>?_) (λs⟨f,o,v⟩=>?_)
  ·have fin:Tt way.mul (λi=>ja (some (decide (65<=ch))) λG=>ifB G (ifB (decide (ch<=90)) (x i (l,(p:Int),ch,true)) (x i (l,(p:Int),ch,decide (ch=95)))) (x i (l,(p:Int),ch,decide (ch=95)))) (λr=>r=true↔Zn l)\/(97<=ch/\ch<=122):=by
    by_cases h:97<=ch/\ch<=122
    ·exact .inr h
    ·refine .inl (wad (wab (λa=>wab (λj=>g _ ⟨_,rfl,?_⟩) λj=>g _ ⟨_,rfl,?_⟩) λa=>g _ ⟨_,rfl,?_⟩))
     ·have a:=wcd a;have j:=wcd j;simp only[true_iff];exact .inr (.inl ⟨a,j⟩)
     ·have j:=wce j;unfold zi5;simp only[wcy];omega
     ·have a:=wce a;unfold zi5;simp only[wcy];omega
   refine wad (wab (λa=>wab (λj=>g _ ⟨_,rfl,?_⟩) λj=>?_) λa=>?_)
   ·have a:=wcd a;have j:=wcd j;simp only[true_iff];exact .inl ⟨a,j⟩
   ·have j:=wce j;rcases fin with h|h
    ·exact h
    ·omega
   ·have a:=wce a;rcases fin with h|h
    ·exact h
    ·omega
  ·subst o;dsimp only;refine Tt.J (λs=>∃d,s=(l,(p:Int),f,d)/\(d=true↔zms ch)) (λx g=>?_) (λs⟨d,o,B⟩=>?_)
   ·refine wad (wab (λa=>g _ ⟨_,rfl,?_⟩) λa=>g _ ⟨_,rfl,?_⟩)
    ·have a:=wcd a;simp[zms];omega
    ·have a:=wce a;simp[zms];omega
   ·subst o;dsimp only;refine Tt.J (λs=>∃w,s=(l,(p:Int),w)/\(w=true↔¬chP p l[p])) (λx g=>?_) (λs⟨w,o,I⟩=>?_)
    ·unfold chP at *;rw[L]at *;have C:zi5 ch->¬zms ch:=by unfold zi5 zms;omega
     refine wad (wab (λa=>wab (λj=>g _ ⟨_,rfl,?_⟩) λj=>wad (wab (λq=>g _ ⟨_,rfl,?_⟩) λq=>g _ ⟨_,rfl,?_⟩)) λa=>wad (wab (λq=>g _ ⟨_,rfl,?_⟩) λq=>g _ ⟨_,rfl,?_⟩))
     ·have n:¬zi5 ch:=λh=>by rw[v.2 h]at a;cases a
      have t:¬zms ch:=λh=>by rw[B.2 h]at j;cases j
      simp[n,t]
     ·have n:¬zi5 ch:=λh=>by rw[v.2 h]at a;cases a
      have t:d=true:=by simpa using j
      have q:=wcd q;have:p=0:=by omega
      simp[n,t,this]
     ·have n:¬zi5 ch:=λh=>by rw[v.2 h]at a;cases a
      have t:d=true:=by simpa using j
      have q:=wce q;have:p≠0:=by omega
      simp[B.1 t,this]
     ·have n:f=true:=by simpa using a
      have t:=C (v.1 n);have:d=false:=by cases d;rfl;exact absurd (B.1 rfl) t
      simp[this,v.1 n]
     ·have n:f=true:=by simpa using a
      simp[v.1 n]
    ·subst o;dsimp only;refine wab (λa=>Tt.pure ?_) λa=>wad ?_
     ·have:=D (I.1 a);simp[this]
     ·rw[wI (by omega) (by omega)];refine E (l.length-(p+1)) _ (by omega) ⟨p+1,rfl,rfl,by omega,λk b N z=>?_⟩;by_cases e:k=p
      ·subst e;rw[wcf u]at z;cases z;exact weu λh=>by rw[I.2 h]at a;cases a
      ·exact H k b (by omega) z
 ·have c:=wce c;have F:p=l.length:=by omega
  subst F;refine Tt.J (λb=>b=true↔Zn l) (λx g=>?_) (λs o=>Tt.pure o);have y:∀(k:Nat)(b:UInt8),l[k]?=some b->chP k b:=λk b h=>H k b (wcg.1 h).1 h;refine wad (wab (λa=>g _ ?_) λa=>g _ ?_)
  ·have a:=wcd a;unfold Zn;simp only[wcy];constructor
   ·intro h;exact⟨by omega,by omega,y⟩
   ·intro h;have:=h.2.1;omega
  ·have a:=wce a;constructor
   ·intro h;cases h
   ·intro h;have:=h.1;omega
def fIx(l:List (List UInt8))(x:List UInt8):Int:=if x∈l then(l.idxOf x:Int)else -1
theorem ji3{l:List (List UInt8)}{k:Nat}(a:k<l.length)(h:l[k]∉l.take k):fIx l l[k]=k:=by
 unfold fIx;rw[if_pos (wcm a)];have e:l=l.take k++l[k]::l.drop (k+1):=by
  rw[List.getElem_cons_drop,wdq]
 have:(l.take k++l[k]::l.drop (k+1)).idxOf l[k]=k:=by
  rw[List.idxOf_append,if_neg h,List.idxOf_cons_self,wdl];omega
 rw[<- e]at this;rw[this]
theorem z7l{l:List (List UInt8)}{x:List UInt8}(h:x∉l):fIx l x=-1:=by unfold fIx;rw[if_neg h]
theorem z1o{α:Type}{l:List α}{k:Nat}{x:α}(c:k<l.length)(h:x∉l.take k)(b:l[k]≠x):x∉l.take (k+1):=λa=>by
 rw[wcn c]at a;rcases wco.1 a with e|e
 ·exact h e
 ·exact b (wci.1 e).symm
theorem IndexE(l:List (List UInt8))(x:List UInt8)(o:l.length<=2000000):Tn (λj=>v7 j l x) (λr=>r=fIx l x):=by
 unfold v7;refine Tt.loop (λm s=>∃k:Nat,k<=l.length/\m=l.length-k/\s=(l,x,(l.length:Int),(k:Int))/\x∉l.take k) l.length waa ⟨0,by omega,by omega,rfl,by simp⟩ λm s⟨k,n,p,i,b⟩ q g=>?_;subst i;dsimp only;refine wab (λc=>?_) (λc=>Tt.pure ?_)
 ·have c:=wcd c;have a:k<l.length:=by omega
  refine wac _ (atN a) (wab (λd=>Tt.pure ?_) (λd=>wad ?_))
  ·have e:x=l[k]:=by simpa using d
   subst e;exact(ji3 a b).symm
  ·have e:¬x=l[k]:=by simpa using d
   rw[wI (by omega) (by omega)];exact g (l.length-(k+1)) _ (by omega) ⟨k+1,by omega,rfl,rfl,z1o a b λh=>e h.symm⟩
 ·have c:=wce c;have f:k=l.length:=by omega
  rw[f,wc2]at b;exact(z7l b).symm
theorem jo1(l:List (List UInt8))(x:List UInt8)(a:l.length<=2000000):Tn (λb=>zc7 b l x) (λr=>r=fIx l x):=by
 unfold zc7;exact Waa (IndexE l x a) waa λ_ h=>Tt.pure h
theorem jio(l:List (List UInt8))(x:List UInt8)(n:l.length<=2000000):Tn (λi=>zdy i l x) (λr=>r=fIx l x):=by
 unfold zdy;refine Tt.loop (λm s=>∃k:Nat,k<=l.length/\m=l.length-k/\s=(l,x,(k:Int))/\x∉l.take k) l.length waa ⟨0,by omega,by omega,rfl,by simp⟩ λm s⟨k,j,o,h,b⟩ p g=>?_;subst h;dsimp only;refine wab (λc=>?_) (λc=>Tt.pure ?_)
 ·have c:=wcd c;have a:k<l.length:=by omega
  refine wac _ (atN a) (wab (λd=>Tt.pure ?_) (λd=>wad ?_))
  ·have e:l[k]=x:=by simpa using d
   subst e;exact(ji3 a b).symm
  ·have e:¬l[k]=x:=by simpa using d
   rw[wI (by omega) (by omega)];exact g (l.length-(k+1)) _ (by omega) ⟨k+1,by omega,rfl,rfl,z1o a b e⟩
 ·have c:=wce c;have f:k=l.length:=by omega
  rw[f,wc2]at b;exact(z7l b).symm
theorem jhw(l:List qe)(g:l.length<=1000000):Tn (λe=>Yz e l) (λr=>r=l.map (·.1)):=by
 unfold Yz;refine Tt.loop (λm s=>∃(k:Nat),k<=l.length/\m=l.length-k/\s=(l,(l.length:Int),(k:Int),(l.take k).map (·.1))) l.length waa ⟨0,by omega,by omega,rfl⟩ λm s⟨k,f,h,d⟩ i b=>?_;subst d;dsimp only;refine wab (λc=>?_) (λc=>Tt.pure ?_)
 ·have c:=wcd c;have a:k<l.length:=by omega
  refine wac _ (atN a) (wac _ (yf (by simp;omega) (by omega)) (wad ?_));rw[wI (by omega) (by omega)];exact b (l.length-(k+1)) _ (by omega) ⟨k+1,by omega,rfl,by rw[wcn a,wdb];rfl⟩
 ·have c:=wce c;rw[show k=l.length by omega,wc2]
def zb0(g:jb):List (List UInt8):=g.1.map (·.1)++g.2.1
theorem z1x(g:jb)(e:GLen g):Tn (λi=>Vu i g) (λr=>r=zb0 g):=by
 have n:=e.t;have l:=e.r;unfold Vu;refine Tt.loop (λm s=>∃(k:Nat),k<=g.1.length/\m=g.1.length-k/\s=((k:Int),g,(g.1.take k).map (·.1))) g.1.length waa ⟨0,by omega,by omega,rfl⟩ λm s⟨k,f,h,d⟩ j b=>?_;subst d;dsimp only;refine wab (λc=>?_) (λc=>?_)
 ·have c:=wcd c;have a:k<g.1.length:=by omega
  refine wac _ (atN a) (wac _ (yf (by simp;omega) (by omega)) (wad ?_));rw[wI (by omega) (by omega)];exact b (g.1.length-(k+1)) _ (by omega) ⟨k+1,by omega,rfl,by rw[wcn a,wdb];rfl⟩
 ·have c:=wce c;rw[show k=g.1.length by omega,wc2];refine Tt.loop (λm s=>∃(k:Nat),k<=g.2.1.length/\m=g.2.1.length-k/\s=((k:Int),g,g.1.map (·.1)++g.2.1.take k)) g.2.1.length waa.fst ⟨0,by omega,by omega,by simp⟩ λm s⟨k,f,h,d⟩ j b=>?_;subst d;dsimp only;refine wab (λc=>?_) (λc=>Tt.pure ?_)
  ·have c:=wcd c;have a:k<g.2.1.length:=by omega
   refine wac _ (atN a) (wac _ (yf (by simp;omega) (by omega)) (wad ?_));rw[wI (by omega) (by omega)];exact b (g.2.1.length-(k+1)) _ (by omega) ⟨k+1,by omega,rfl,by rw[wcn a,wc6];rfl⟩
  ·have c:=wce c;rw[show k=g.2.1.length by omega,wc2];rfl
def ofS(r:Int)(ps:List jh):List Int:=(ps.zipIdx.filter λx=>decide (x.1.1=r)).map λx=>(x.2:Int)
theorem zmo{r:Int}{ps:List jh}{k:Nat}(h:k<ps.length):ofS r (ps.take (k+1))=ofS r (ps.take k)++(if(ps[k]).1=r then [(k:Int)]else []):=by
 unfold ofS;rw[wcn h,List.zipIdx_append,we7,wdb];congr 1;rw[wdl,wft (by omega)];by_cases e:(ps[k]).1=r<;>simp[e]
theorem jcz{r:Int}{ps:List jh}:(ofS r ps).length<=ps.length:=by
 unfold ofS;rw[wcv];exact wdk (wen _ _) (by simp)
theorem OfE(g:jb)(h:GLen g)(r:Int):Tn (λj=>zgv j g r) (λl=>l=ofS r g.2.2.1):=by
 have q:=h.p;unfold zgv;refine Tt.loop (λm s=>∃(k:Nat),k<=g.2.2.1.length/\m=g.2.2.1.length-k/\s=(r,g.2.2.1,(g.2.2.1.length:Int),(k:Int),ofS r (g.2.2.1.take k))) g.2.2.1.length waa ⟨0,by omega,by omega,rfl⟩ λm s⟨k,n,o,f⟩ t e=>?_;subst f;dsimp only;refine wab (λc=>?_) (λc=>Tt.pure ?_)
 ·have c:=wcd c;have b:k<g.2.2.1.length:=by omega
  have i:(ofS r (g.2.2.1.take k)).length<=k:=wdk jcz (by simp;omega);refine Tt.J (λs=>s=(r,g.2.2.1,(g.2.2.1.length:Int),(k:Int),ofS r (g.2.2.1.take (k+1)))) (λu d=>?_) (λs f=>?_)
  ·refine wac _ (atN b) (wab (λa=>?_) λa=>d _ ?_)
   ·have a:=wcd a;exact wac _ (yf (by simp;omega) (by omega)) (d _ (by rw[zmo b,if_pos a]))
   ·have a:=wce a;rw[zmo b,if_neg a,wc7]
  ·subst f;refine wad ?_;dsimp only;rw[wI (by omega) (by omega)];exact e (g.2.2.1.length-(k+1)) _ (by omega) ⟨k+1,by omega,rfl,rfl⟩
 ·have c:=wce c;rw[show k=g.2.2.1.length by omega,wc2]
theorem refOfE(g:jb)(h:GLen g)(r:Int):Tn (λj=>zek j g r) (λl=>l=ofS r g.2.2.1):=by
 have q:=h.p;unfold zek;refine Tt.loop (λm s=>∃(k:Nat),k<=g.2.2.1.length/\m=g.2.2.1.length-k/\s=(r,(k:Int),g,ofS r (g.2.2.1.take k))) g.2.2.1.length waa ⟨0,by omega,by omega,rfl⟩ λm s⟨k,n,o,f⟩ t e=>?_;subst f;dsimp only;refine wab (λc=>?_) (λc=>Tt.pure ?_)
 ·have c:=wcd c;have b:k<g.2.2.1.length:=by omega
  have i:(ofS r (g.2.2.1.take k)).length<=k:=wdk jcz (by simp;omega);refine Tt.J (λs=>s=(r,(k:Int),g,ofS r (g.2.2.1.take (k+1)))) (λu d=>?_) (λs f=>?_)
  ·refine wac _ (atN b) (wab (λa=>?_) λa=>d _ ?_)
   ·have a:=wcd a;exact wac _ (yf (by simp;omega) (by omega)) (d _ (by rw[zmo b,if_pos a]))
   ·have a:=wce a;rw[zmo b,if_neg a,wc7]
  ·subst f;refine wad ?_;dsimp only;rw[wI (by omega) (by omega)];exact e (g.2.2.1.length-(k+1)) _ (by omega) ⟨k+1,by omega,rfl,rfl⟩
 ·have c:=wce c;rw[show k=g.2.2.1.length by omega,wc2]
open Classical in
def itE(g:jb)(x:ji):Int:=
 if ¬zao g x then 11 else if x.1=false/\(g.1.getD x.2.1.toNat default).2.2.1≠0 then 12 else if x.2.2.1<0\/2<x.2.2.1\/x.2.2.2.1<0\/8<x.2.2.2.1 then 2 else 0
theorem itE_ok{g:jb}{x:ji}(h:itE g x=0):zao g x:=by
 unfold itE at h;by_cases c:zao g x
 ·exact c
 ·rw[if_pos c]at h;cases h
theorem itemE(g:jb)(d:jd)(x:ji):Tn (λu=>Qd u (some (g,d,())) x) (λe=>e=itE g x):=by
 unfold Qd;refine wad ?_;refine Tt.J (λs=>s=(some (g,d,()),(if x.1=true then(g.2.1.length:Int)else g.1.length),x)) (λp a=>?_) (λs j=>?_)
 ·refine wab (λc=>wad (a _ ?_)) (λc=>a _ ?_)
  ·simp[c]
  ·simp[c]
 ·subst j;dsimp only;refine Tt.J (λs=>∃b,s=(some (g,d,()),b,x)/\(b=true↔¬zao g x)) (λp a=>?_) (λs⟨b,j,m⟩=>?_)
  ·refine wad (wab (λc=>a _ ⟨_,rfl,?_⟩) (λc=>a _ ⟨_,rfl,?_⟩))
   ·have c:=wcd c;unfold zao;simp only[true_iff];omega
   ·have c:=wce c;unfold zao;simp only[wcy];omega
  ·subst j;dsimp only;refine wab (λc=>Tt.pure ?_) (λc=>?_)
   ·unfold itE;rw[if_pos (m.1 c)]
   ·have n:zao g x:=weu λh=>by rw[m.2 h]at c;cases c
    refine Tt.J (λs=>∃b,s=(b,x)/\(b=true↔x.1=false/\(g.1.getD x.2.1.toNat default).2.2.1≠0)) (λp a=>?_) (λs⟨b,j,m⟩=>?_)
    ·refine wad (wab (λf=>wad ?_) (λf=>a _ ⟨_,rfl,?_⟩))
     ·have f:x.1=false:=by simpa using f
      obtain⟨t,r⟩:=n;rw[f]at r;simp only[wdp,if_false]at r;have q:x.2.1.toNat<g.1.length:=by omega
      refine wac _ (Jo t (wcf q)) (a _ ⟨_,rfl,?_⟩);simp[f,q]
     ·have f:x.1=true:=by simpa using f
      simp[f]
    ·subst j;dsimp only;refine wab (λf=>Tt.pure ?_) (λf=>?_)
     ·unfold itE;rw[if_neg (λh=>h n),if_pos (m.1 f)]
     ·have o:¬(x.1=false/\(g.1.getD x.2.1.toNat default).2.2.1≠0):=λh=>by rw[m.2 h]at f;cases f
      refine Tt.J (λb=>b=true↔x.2.2.1<0\/2<x.2.2.1\/x.2.2.2.1<0\/8<x.2.2.2.1) (λp a=>?_) (λs j=>?_)
      ·refine wad (wab (λi=>a _ ?_) λi=>wab (λk=>a _ ?_) λk=>wab (λl=>a _ ?_) λl=>a _ ?_)
       ·have i:=wcd i;simp only[true_iff];omega
       ·have k:=wcd k;simp only[true_iff];omega
       ·have l:=wcd l;simp only[true_iff];omega
       ·have i:=wce i;have k:=wce k;have l:=wce l;simp only[wcy];omega
      ·unfold itE;rw[if_neg (λh=>h n),if_neg o];exact wab (λi=>Tt.pure (by rw[if_pos (j.1 i)])) λi=>Tt.pure (by rw[if_neg (λh=>by rw[j.2 h]at i;cases i)])
theorem ji6(g:jb)(x:ji):Tn (λt=>zd0 t g x) (λe=>e=itE g x):=by
 unfold zd0;refine Tt.J (λs=>s=((if x.1=true then(g.2.1.length:Int)else g.1.length),g,x)) (λo a=>?_) (λs i=>?_)
 ·refine wab (λc=>a _ ?_) (λc=>a _ ?_)
  ·simp[c]
  ·simp[c]
 ·subst i;dsimp only;refine Tt.J (λs=>∃b,s=(b,g,x)/\(b=true↔¬zao g x)) (λo a=>?_) (λs⟨b,i,l⟩=>?_)
  ·refine wad (wab (λc=>a _ ⟨_,rfl,?_⟩) (λc=>a _ ⟨_,rfl,?_⟩))
   ·have c:=wcd c;unfold zao;simp only[true_iff];omega
   ·have c:=wce c;unfold zao;simp only[wcy];omega
  ·subst i;dsimp only;refine wab (λc=>Tt.pure ?_) (λc=>?_)
   ·unfold itE;rw[if_pos (l.1 c)]
   ·have m:zao g x:=weu λh=>by rw[l.2 h]at c;cases c
    refine Tt.J (λs=>∃b,s=(b,x)/\(b=true↔x.1=false/\(g.1.getD x.2.1.toNat default).2.2.1≠0)) (λo a=>?_) (λs⟨b,i,l⟩=>?_)
    ·refine wad (wab (λd=>?_) (λd=>a _ ⟨_,rfl,?_⟩))
     ·have d:x.1=false:=by simpa using d
      obtain⟨r,q⟩:=m;rw[d]at q;simp only[wdp,if_false]at q;have p:x.2.1.toNat<g.1.length:=by omega
      refine wac _ (Jo r (wcf p)) (a _ ⟨_,rfl,?_⟩);simp[d,p]
     ·have d:x.1=true:=by simpa using d
      simp[d]
    ·subst i;dsimp only;refine wab (λd=>Tt.pure ?_) (λd=>?_)
     ·unfold itE;rw[if_neg (λh=>h m),if_pos (l.1 d)]
     ·have n:¬(x.1=false/\(g.1.getD x.2.1.toNat default).2.2.1≠0):=λh=>by rw[l.2 h]at d;cases d
      refine Tt.J (λb=>b=true↔x.2.2.1<0\/2<x.2.2.1\/x.2.2.2.1<0\/8<x.2.2.2.1) (λo a=>?_) (λs i=>?_)
      ·refine wad (wab (λf=>a _ ?_) λf=>wab (λj=>a _ ?_) λj=>wab (λk=>a _ ?_) λk=>a _ ?_)
       ·have f:=wcd f;simp only[true_iff];omega
       ·have j:=wcd j;simp only[true_iff];omega
       ·have k:=wcd k;simp only[true_iff];omega
       ·have f:=wce f;have j:=wce j;have k:=wce k;simp only[wcy];omega
      ·unfold itE;rw[if_neg (λh=>h m),if_neg n];exact wab (λf=>Tt.pure (by rw[if_pos (i.1 f)])) λf=>Tt.pure (by rw[if_neg (λh=>by rw[i.2 h]at f;cases f)])
def Z5:List jf->Nat->Int
 |[],d=>if d=1 then 0 else 3
 |x::l,d=>match arK x.1 with
  |none=>1
  |some n=>if x.1≠1/\x.2.1.l≠List.replicate 4 0 then 1 else if d<n then 3 else Z5 l (d-n+1)
def Vx(l:List jf):Int:=if 512<l.length then 4 else Z5 l 0
theorem jbd{c:Int}{n:Nat}(h:arK c=some n):n<=2:=by
 unfold arK at h;split at h
 ·cases h;omega
 ·split at h
  ·cases h;omega
  ·split at h<;>cases h;omega
theorem walkE(l:List jf)(I:l.length<=1000000):Tn (λF=>zeb F l) (λr=>r.2.2.1≠0/\Vx l=r.2.2.1\/r.2.2.1=0/\Vx l=if r.1=1 then 0 else 3):=by
 unfold zeb Vx;refine wab (λc=>Tt.pure (.inl ⟨by simp,?_⟩)) (λc=>?_)
 ·have c:=wcd c;rw[if_pos (by omega)]
 have c:=wce c;have v:¬512<l.length:=by omega
 rw[if_neg v];generalize A:Z5 l 0=C;refine Tt.loop (λm s=>∃(k d:Nat)(x:Int),k<=l.length/\m=l.length-k/\d<=k/\s=((d:Int),x,l,(l.length:Int),(k:Int))/\C=Z5 (l.drop k) d) l.length waa ⟨0,0,0,by omega,by omega,by omega,rfl,A.symm⟩ λm s⟨k,d,mx,H,K,B,j,a⟩ L w=>?_;subst j;dsimp only;refine wab (λc=>?_) (λc=>Tt.pure (.inr ⟨rfl,?_⟩))
 ·have c:=wcd c;have p:k<l.length:=by omega
  rw[wc0 p]at a;refine wac _ (atN p) (Waa (z7d _) waa.fst λN y=>?_);subst y;generalize l[k]=x at a⊢;unfold Z5 at a;cases g:arK x.1 with
  |none=>
   rw[g]at a;dsimp only at a⊢;refine Tt.J (λs=>s.2.2.2.2.2.2=true) (λG i=>?_) (λs j=>?_)
   ·exact wad (wah rfl (i _ rfl))
   ·exact wah j (Tt.pure (.inl ⟨by simp,a⟩))
  |some n=>
   rw[g]at a;dsimp only at a⊢;have D:=jbd g;refine Tt.J (λs=>∃b,s=((d:Int),mx,(n:Int),l,(l.length:Int),(k:Int),b)/\(b=true↔x.1≠1/\x.2.1.l≠List.replicate 4 0)) (λG i=>?_) (λs⟨b,j,t⟩=>?_)
   ·refine wad (wae rfl ?_);refine Tt.J (λs=>∃b,s=((d:Int),mx,(n:Int),l,(l.length:Int),(k:Int),b)/\(b=true↔x.1≠1/\x.2.1.l≠List.replicate 4 0)) (λM q=>?_) (λs⟨b,j,t⟩=>?_)
    ·refine wad (wab (λf=>q _ ⟨_,rfl,?_⟩) (λf=>q _ ⟨_,rfl,?_⟩))
     ·have f:=wcd f;simp[f]
     ·have f:=wce f;simp at f;simp[f]
    ·subst j;exact i _ ⟨_,rfl,t⟩
   ·subst j;dsimp only;refine wab (λf=>Tt.pure (.inl ⟨by simp,?_⟩)) (λf=>?_)
    ·rw[if_pos (t.1 f)]at a;exact a
    rw[if_neg (λh=>by rw[t.2 h]at f;cases f)]at a;refine wab (λo=>Tt.pure (.inl ⟨by simp,?_⟩)) (λo=>?_)
    ·have o:=wcd o;rw[if_pos (by omega)]at a;exact a
    have o:=wce o;have E:n<=d:=by omega
    rw[if_neg (by omega)]at a;refine wad (wad (wad ?_));rw[wI (z:=1-(n:Int)) (by omega) (by omega),wI (by omega) (by omega),wI (by omega) (by omega)];exact w (l.length-(k+1)) _ (by omega) ⟨k+1,d-n+1,_,by omega,rfl,by omega,by
     have e:(d:Int)+(1-(n:Int))=((d-n+1:Nat):Int):=by omega
     rw[e];rfl,a⟩
 ·have c:=wce c;have u:k=l.length:=by omega
  rw[a,u,wd3];unfold Z5;by_cases h:d=1
  ·rw[if_pos h,if_pos (by simp[h])]
  ·rw[if_neg h,if_neg (by simp only;omega)]
theorem z99(l:List jf)(n:l.length<=1000000):Tn (λo=>Yd o l) (λe=>e=Vx l):=by
 unfold Yd;refine Waa (walkE l n) waa λr g=>?_;obtain⟨d,mx,e,u⟩:=r;simp only at g;dsimp only;refine Tt.J (λs=>s.1=e/\(s.2=true↔e=0/\d≠1)) (λq a=>?_) (λs⟨i,f⟩=>?_)
 ·refine wad (wab (λc=>a _ ⟨rfl,?_⟩) λc=>a _ ⟨rfl,?_⟩)
  ·have c:=wcd c;simp[c]
  ·have c:=wce c;simp[c]
 ·obtain⟨p,b⟩:=s;simp only at i f;subst i;refine wab (λc=>Tt.pure ?_) λc=>Tt.pure ?_
  ·obtain⟨j,k⟩:=f.1 c;rcases g with h|h
   ·exact absurd j h.1
   ·rw[h.2,if_neg k]
  ·rcases g with h|h
   ·exact h.2.symm
   ·have:d=1:=weu λm=>by rw[f.2 ⟨h.1,m⟩]at c;cases c
    rw[h.2,if_pos this];exact h.1
theorem jj6(c:Int):Tn (λa=>Qp a c) (λr=>r=match arK c with|some n=>(n:Int)|none => -1):=by
 have e:∀a,Qp a c=some (match arK c with|some n=>(n:Int)|none => -1):=λa=>by
  unfold Qp J arK;simp only[ja,ifB];by_cases b:c=1
  ·subst b;rfl
  by_cases d:c=2
  ·subst d;rfl
  by_cases f:c=3
  ·subst f;rfl
  by_cases g:c=4
  ·subst g;rfl
  by_cases h:c=5
  ·subst h;rfl
  by_cases i:c=6
  ·subst i;rfl
  by_cases j:c=7
  ·subst j;rfl
  simp[b,d,f,g,h,i,j]
 exact⟨_,⟨0,λa _=>e a⟩,rfl⟩
theorem zgp(l:List jf)(F:l.length<=1000000):Tn (λD=>Jq D l) (λe=>e=Vx l):=by
 unfold Jq Vx;refine wab (λc=>Tt.pure ?_) (λc=>?_)
 ·have c:=wcd c;rw[if_pos (by omega)]
 have c:=wce c;have t:¬512<l.length:=by omega
 rw[if_neg t];generalize y:Z5 l 0=C;refine Tt.loop (λm s=>∃(k d:Nat),k<=l.length/\m=l.length-k/\d<=k/\s=(l,(d:Int),(k:Int))/\C=Z5 (l.drop k) d) l.length waa ⟨0,0,by omega,by omega,by omega,rfl,y.symm⟩ λm s⟨k,d,E,G,A,w,f⟩ H u=>?_;subst w;dsimp only;refine wab (λc=>?_) (λc=>?_)
 ·have c:=wcd c;have p:k<l.length:=by omega
  have q:=atN p;rw[wc0 p]at f;refine wac _ q (Waa (jj6 _) waa.fst λK v=>?_);subst v;generalize l[k]=x at f q⊢;unfold Z5 at f;refine Tt.J (λs=>∃b,s=(l,(d:Int),(k:Int),(match arK x.1 with|some n=>(n:Int)|none => -1),b)/\(b=true↔arK x.1=none\/x.1≠1/\x.2.1.l≠List.replicate 4 0)) (λI j=>?_) (λs⟨b,w,o⟩=>?_)
  ·refine wad (wab (λa=>j _ ⟨_,rfl,?_⟩) λa=>wac _ q (wad (wab (λg=>wac _ q (j _ ⟨_,rfl,?_⟩)) λg=>j _ ⟨_,rfl,?_⟩)))
   ·have a:=wcd a;cases h:arK x.1 with
    |none=>simp
    |some n=>rw[h]at a;simp only at a;omega
   ·have a:=wce a;have g:=wcd g;cases h:arK x.1 with
    |none=>rw[h]at a;simp at a
    |some n=>simp[g]
   ·have a:=wce a;have g:=wce g;simp at g;cases h:arK x.1 with
    |none=>rw[h]at a;simp at a
    |some n=>simp[g]
  ·subst w;dsimp only;cases i:arK x.1 with
   |none=>
    rw[i]at f o;have:b=true:=o.2 (.inl rfl);exact wah this (Tt.pure f.symm)
   |some n=>
    rw[i]at f o;dsimp only at f⊢;have B:=jbd i;refine wab (λa=>Tt.pure ?_) (λa=>?_)
    ·have:=o.1 a;simp only[reduceCtorEq,false_or]at this;rw[if_pos this]at f;exact f.symm
    rw[if_neg (λh=>by rw[o.2 (.inr h)]at a;cases a)]at f;refine wab (λg=>Tt.pure ?_) (λg=>?_)
    ·have g:=wcd g;rw[if_pos (by omega)]at f;exact f.symm
    have g:=wce g;rw[if_neg (by omega)]at f;refine wad (wad ?_);rw[wI (z:=(d:Int)-(n:Int)) (by omega) (by omega),wI (by omega) (by omega),wI (by omega) (by omega)];exact u (l.length-(k+1)) _ (by omega) ⟨k+1,d-n+1,by omega,rfl,by omega,by
     have e:(d:Int)-(n:Int)+1=((d-n+1:Nat):Int):=by omega
     rw[e];rfl,f⟩
 ·have c:=wce c;have r:k=l.length:=by omega
  rw[r,wd3]at f;unfold Z5 at f;rw[f];refine wab (λa=>Tt.pure ?_) λa=>Tt.pure ?_
  ·have a:=wcd a;rw[if_neg (by omega)]
  ·have a:=wce a;rw[if_pos (by omega)]
theorem z1l:∀(l:List jf)(d:Nat),Z5 l d=0->zf5 l d=some 1
 |[],d,h=>by
  unfold Z5 at h;by_cases e:d=1
  ·subst e;rfl
  ·rw[if_neg e]at h;cases h
 |x::l,d,h=>by
  unfold Z5 at h;unfold zf5;cases a:arK x.1 with
  |none=>rw[a]at h;cases h
  |some n=>
   rw[a]at h;dsimp only at h⊢;split at h
   ·cases h
   ·split at h
    ·cases h
    ·rename_i b c;rw[if_pos (by omega)];exact z1l l _ h
theorem Qx{l:List jf}(h:Vx l=0):RxW l:=by
 unfold Vx at h;split at h
 ·cases h
 ·exact⟨z1l l 0 h,by omega⟩
abbrev zd:jd:=(0,0,0,())
def jz:List jd->jd
 |[]=>zd
 |d::l=>if d.1=0 then jz l else d
theorem vk:∀{a b:List jd},jz (a++b)=if(jz a).1=0 then jz b else jz a
 |[],b=>by simp[jz]
 |d::a,b=>by
  by_cases h:d.1=0
  ·simp only[we4,jz,h,↓reduceIte];exact vk
  ·simp only[we4,jz,h,↓reduceIte]
theorem zr5:∀{l:List jd},(∀d∈l,d.1=0)->jz l=zd
 |[],_=>rfl
 |d::l,h=>by
  unfold jz;rw[if_pos (h d (by simp))];exact zr5 λe a=>h e (by simp[a])
theorem z2o:∀{l:List jd}{k:Nat}{d:jd},l[k]?=some d->d.1≠0->(∀(j:Nat)(e:jd),j<k->l[j]?=some e->e.1=0)->jz l=d
 |[],k,d,h,_,_=>by simp at h
 |x::l,0,d,h,a,_=>by
  simp at h;subst h;unfold jz;rw[if_neg a]
 |x::l,k+1,d,h,a,b=>by
  unfold jz;rw[if_pos (b 0 x (by omega) rfl)];exact z2o (by simpa using h) a λj e f c=>b (j+1) e (by omega) (by simpa using c)
section
variable{α:Type}{l:List α}{f:Nat → α → jd}
theorem zfg(h:∀(j:Nat)(x:α),l[j]?=some x->(f j x).1=0):jz (l.mapIdx f)=zd:=zr5 λd c=>by
 obtain⟨j,a⟩:=wdc c;rw[wet]at a;cases b:l[j]? with
 |none=>rw[b]at a;cases a
 |some x=>rw[b]at a;cases a;exact h j x b
theorem zrm{k:Nat}{x:α}(g:l[k]?=some x)(c:(f k x).1≠0)(h:∀(j:Nat)(y:α),j<k->l[j]?=some y->(f j y).1=0):jz (l.mapIdx f)=f k x:=by
 refine z2o (k:=k) (by rw[wet,g];rfl) c λj e d a=>?_;rw[wet]at a;cases b:l[j]? with
 |none=>rw[b]at a;cases a
 |some y=>rw[b]at a;cases a;exact h j y d b
end
open Classical in
def zlp(g:jb)(i:Nat)(t:qe):jd:=
 if ¬Zn t.1 then(7,i,0,())else if t.1∈(g.1.map (·.1)).take i then(8,i,0,())else if Vx t.2.1≠0 then(9,i,Vx t.2.1,())else if t.2.2.1<0\/3<t.2.2.1 then(1,i,0,())else zd
open Classical in
def zyr(g:jb)(i:Nat)(s:List UInt8):jd:=
 if ¬Zn s then(7,i,0,())else if s∈g.1.map (·.1)++g.2.1.take i then(8,i,0,())else zd
def je9(g:jb)(i:Nat)(its:List ji):jd:=jz (its.mapIdx λk x=>(itE g x,(i:Int),(k:Int)+1,()))
def zlq(g:jb)(i:Nat)(p:jh):jd:=
 if p.1<0\/(g.2.1.length:Int)<=p.1 then(11,i,0,())else if 16<p.2.1.length then(4,i,0,())else je9 g i p.2.1
def zi9(g:jb):jd:=if g.2.2.2.1<0\/(g.2.1.length:Int)<=g.2.2.2.1 then(11, -1,0,())else zd
def z5s(g:jb)(i:Nat)(_:List UInt8):jd:=if(ofS i g.2.2.1).length=0 then(5,i,0,())else zd
def szA(g:jb):List jd:=[(g.1.length:Int)-64,(g.2.1.length:Int)-64,(g.2.2.1.length:Int)-256].mapIdx λk z=>if 0<z then(4,(k:Int),0,())else zd
def szT(g:jb):List (Int×Int×Int):=[(1,g.2.2.2.2.1,4096),(0,g.2.2.2.2.2.1,65536),(1,g.2.2.2.2.2.2.1,65536),(1,g.2.2.2.2.2.2.2.1,1048576)]
def szB(g:jb):List jd:=(szT g).mapIdx λk x=>if x.2.1<x.1\/x.2.2<x.2.1 then(2,(k:Int),0,())else zd
def zp1(g:jb):=g.1.mapIdx (zlp g)
def zof(g:jb):=g.2.1.mapIdx (zyr g)
def zl6(g:jb):=g.2.2.1.mapIdx (zlq g)
def zlz(g:jb):=g.2.1.mapIdx (z5s g)
def gFd(g:jb):jd:=jz (szA g++(szB g++(zp1 g++(zof g++(zl6 g++([zi9 g]++zlz g))))))
theorem jlz(l:List qe)(a:l.length<=1000000):Tn (λb=>zox b l) (λr=>r=l.map (·.1)):=jhw l a
theorem z4q{l:List (List UInt8)}{x:List UInt8}:0<=fIx l x↔x∈l:=by
 unfold fIx;by_cases h:x∈l
 ·rw[if_pos h];simp only[h,iff_true];omega
 ·rw[if_neg h];simp only[h,iff_false];omega
structure Stg(g:jb)(L:List jd)(s:Bool×jd×qh):Prop where
 y:s.1=true->(jz L).1≠0/\s.2.2.2.1=jz L
 n:s.1=false->jz L=zd/\s.2.2=c0 g
theorem wan{g:jb}{L:List jd}{a d:jd}{b:jb}(c:d.1≠0)(h:jz L=d):Stg g L (true,a,(b,d,())):=⟨λ_=>⟨by rw[h];exact c,h.symm⟩,λh=>(by cases h)⟩
theorem wbi{g:jb}{L:List jd}{a:jd}(h:jz L=zd):Stg g L (false,a,c0 g):=⟨λh=>(by cases h),λ_=>⟨h,rfl⟩⟩
theorem jcg(g:jb)(hg:Y1 g):Tn (λnn=>zaq nn g) (λd=>d=gFd g):=by
 have ht:=hg.t;have hr:=hg.r;have hp:=hg.p;unfold zaq;refine Tt.J (λs=>s.2.2.1=gFd g) (λi1 h2=>?_) (λs q=>Tt.pure q);refine Tt.J (Stg g (szA g++szB g)) (λi2 h4=>?_) (λs q=>?_)
 ·obtain⟨L3,Y⟩:∃L3,L3=[T.w64 ((g.1.length:Int)-64),T.w64 ((g.2.1.length:Int)-64),T.w64 ((g.2.2.1.length:Int)-256)]:=⟨_,rfl⟩
  rw[<- Y];have e4:L3.length=3:=by rw[Y];rfl
  rw[wI (by omega) (by omega),wI (by omega) (by omega),wI (by omega) (by omega)]at Y;have c6:szA g=L3.mapIdx λk z=>if 0<z then(4,(k:Int),0,())else zd:=by rw[Y];rfl
  refine Tt.loop (λm s=>∃k:Nat,k<=3/\m=3-k/\s=(L3,3,(k:Int),c0 g)/\∀(i:Nat)(z:Int),i<k->L3[i]?=some z->z<=0) 3 waa ⟨0,by omega,by omega,by rw[e4];rfl,λi z K=>by omega⟩ λm s⟨k,hk,hm,q,L⟩ nx C=>?_;subst q;dsimp only;refine wab (λc=>?_) (λc=>?_)
  ·have c:=wcd c;have u:k<L3.length:=by omega
   refine wac _ (atN u) (wab (λB=>h4.fst _ ?_) (λB=>wad ?_))
   ·have B:=wcd B;refine wan (by simp) ?_;have e:jz (szA g)=(4,(k:Int),0,()):=by
     rw[c6,zrm (wcf u) (by rw[if_pos B];simp) λj y I G=>by rw[if_neg (by have:=L j y I G;omega)],if_pos B]
    rw[vk,e];rfl
   ·have B:=wce B;rw[wI (by omega) (by omega)];refine C (3-(k+1)) _ (by omega) ⟨k+1,by omega,rfl,rfl,λi z K hz=>?_⟩;by_cases H:i<k
    ·exact L i z H hz
    ·have:i=k:=by omega
     subst this;rw[wcf u]at hz;cases hz;omega
  ·have c:=wce c;have e3:k=3:=by omega
   subst e3;have eA:jz (szA g)=zd:=by
    rw[c6];exact zfg λj z hz=>by rw[if_neg (by have:=L j z (by have:=(wcg.1 hz).1;omega) hz;omega)]
   obtain⟨L4,a8⟩:∃L4,L4=[(⟨[1,(c0 g).1.2.2.2.2.1,4096],rfl⟩:Arr 3 Int),(⟨[0,(c0 g).1.2.2.2.2.2.1,65536],rfl⟩:Arr 3 Int),(⟨[1,(c0 g).1.2.2.2.2.2.2.1,65536],rfl⟩:Arr 3 Int),(⟨[1,(c0 g).1.2.2.2.2.2.2.2.1,1048576],rfl⟩:Arr 3 Int)]:=⟨_,rfl⟩
   rw[<- a8];have e5:L4.length=4:=by rw[a8];rfl
   have hT:∀(i:Nat)(K:i<L4.length),∃x,(szT g)[i]?=some x/\(L4[i]).l=[x.1,x.2.1,x.2.2]:=λi K=>by
    subst a8;have:i=0\/i=1\/i=2\/i=3:=by simp at K;omega
    rcases this with rfl|rfl|rfl|rfl<;>exact⟨_,rfl,rfl⟩
   refine Tt.loop (λm s=>∃k:Nat,k<=4/\m=4-k/\s=(L4,4,(k:Int),c0 g)/\∀(i:Nat)(x:Int×Int×Int),i<k->(szT g)[i]?=some x->¬(x.2.1<x.1\/x.2.2<x.2.1)) 4 waa.fst ⟨0,by omega,by omega,by rw[e5];rfl,λi x K=>by omega⟩ λm s⟨k,hk,hm,q,L⟩ nx C=>?_;subst q;dsimp only;refine wab (λc=>?_) (λc=>h4.fst.fst _ (wbi ?_))
   ·have c:=wcd c;have u:k<L4.length:=by omega
    obtain⟨x,w,a0⟩:=hT k u;refine wac _ (atN u) ?_;refine Tt.J (λs=>∃b,s=((k:Int),L4,4,(k:Int),b,c0 g)/\(b=true↔x.2.1<x.1\/x.2.2<x.2.1)) (λny A=>?_) (λs⟨b,q,hb⟩=>?_)
    ·refine wac 1 rfl (wac x.2.1 (by rw[a0];rfl) (wac 0 rfl (wac x.1 (by rw[a0];rfl) (wad (wab (λn=>A _ ⟨true,rfl,?_⟩) (λn=>wac 1 rfl (wac x.2.1 (by rw[a0];rfl) (wac 2 rfl (wac x.2.2 (by rw[a0];rfl) (A _ ⟨_,rfl,?_⟩))))))))))
     ·have n:=wcd n;simp[n]
     ·have n:=wce n;simp only[wcy];omega
    ·subst q;dsimp only;refine wab (λn=>h4.fst.fst _ (wan (by simp) ?_)) (λn=>wad ?_)
     ·have a4:=hb.1 n;rw[vk,eA,if_pos rfl];unfold szB;rw[zrm w (by rw[if_pos a4];simp) λj y I G=>by rw[if_neg (L j y I G)],if_pos a4]
     ·rw[wI (by omega) (by omega)];refine C (4-(k+1)) _ (by omega) ⟨k+1,by omega,rfl,rfl,λi y K G=>?_⟩;by_cases H:i<k
      ·exact L i y H G
      ·have:i=k:=by omega
       subst this;rw[w]at G;cases G;exact λh=>by rw[hb.2 h]at n;cases n
   ·have c:=wce c;rw[vk,eA,if_pos rfl];unfold szB;exact zfg λj x w=>by
     have I:=(wcg.1 w).1;have h3:j<4:=I;rw[if_neg (L j x (by omega) w)]
 ·obtain⟨f3,d3,c3⟩:=s;obtain⟨D,E⟩:=q;simp only at D E;refine wab (λc=>h2 _ ?_) (λc=>?_)
  ·obtain⟨q1,P⟩:=D c;unfold gFd;rw[<- wc6,vk,if_neg q1];exact P
  obtain⟨q0,rfl⟩:=E c;have g1:gFd g=jz (zp1 g++(zof g++(zl6 g++([zi9 g]++zlz g)))):=by
   unfold gFd;rw[<- wc6,vk,if_pos (by rw[q0])]
  dsimp only;refine Tt.J (Stg g (zp1 g)) (λi3 h6=>?_) (λs q=>?_)
  ·refine Waa (jhw g.1 ht) waa λns V=>?_;have h7:ns.length=g.1.length:=by rw[V];simp
   refine Tt.loop (λm s=>∃k:Nat,k<=g.1.length/\m=g.1.length-k/\s=(ns,g.1,(g.1.length:Int),(k:Int),c0 g)/\∀(i:Nat)(x:qe),i<k->g.1[i]?=some x->(zlp g i x).1=0) g.1.length waa ⟨0,by omega,by omega,rfl,λi x K=>by omega⟩ λm s⟨k,hk,hm,q,N⟩ nx C=>?_;subst q;dsimp only;refine wab (λc=>?_) (λc=>h6.fst _ (wbi ?_))
   ·have c:=wcd c;have u:k<g.1.length:=by omega
    have a5:g.1[k]∈g.1:=wcm u;have P:=hg.tn _ a5;have o:=wcf u;refine wac _ (atN u) ?_;generalize g.1[k]=t at P o a5⊢;have v:∀d,zlp g k t=d->d.1≠0->jz (zp1 g)=d:=λd e hd=>by
     unfold zp1;rw[zrm o (by rw[e];exact hd) λj y I G=>N j y I G,e]
    refine Tt.J (λs=>∃f R,s=(ns,(k:Int),g.1,(g.1.length:Int),(k:Int),f,R,t)/\(f=true->R.2.1.1≠0/\jz (zp1 g)=R.2.1)/\(f=false->R=c0 g/\Zn t.1/\t.1∉(g.1.map (·.1)).take k)) (λny A=>?_) (λs⟨f,R,q,k1,k2⟩=>?_)
    ·refine wac (ns.take k) (sliT (by omega)) ?_;refine Waa (jpc _) waa.fst λb hb=>wab (λn=>A _ ⟨_,_,rfl,λ_=>⟨(by decide:(7:Int)≠0),v _ ?_ (by simp)⟩,λh=>by cases h⟩) (λn=>?_)
     ·have O:¬Zn t.1:=λh=>by rw[hb.2 h]at n;cases n
      unfold zlp;rw[if_pos O]
     have O:Zn t.1:=hb.1 (by simpa using n);refine Waa (jo1 _ _ (by rw[wdl];omega)) waa.fst λz hz=>wab (λB=>A _ ⟨_,_,rfl,λ_=>⟨(by decide:(8:Int)≠0),v _ ?_ (by simp)⟩,λh=>by cases h⟩) (λB=>A _ ⟨_,_,rfl,λh=>(by cases h),λ_=>⟨rfl,O,?_⟩⟩)
     ·have B:=wcd B;rw[hz,z4q,V]at B;unfold zlp;rw[if_neg (λh=>h O),if_pos B]
     ·have B:=wce B;rw[hz,z4q,V]at B;exact B
    ·subst q;dsimp only;refine wab (λc=>h6.fst _ (wan (k1 c).1 (k1 c).2)) (λc=>?_);obtain⟨rfl,O,U⟩:=k2 c;refine Waa (z99 _ P) waa.fst λe he=>wab (λF=>h6.fst _ (wan (by simp) (v _ ?_ (by simp)))) (λF=>?_)
     ·have F:=wcd F;rw[he]at F⊢;unfold zlp;rw[if_neg (λh=>h O),if_neg U,if_pos F]
     have F:e=0:=wek.1 (wce F);rw[he]at F;refine Tt.J (λs=>∃f,s=(ns,(k:Int),g.1,(g.1.length:Int),(k:Int),f,c0 g)/\(f=true↔t.2.2.1<0\/3<t.2.2.1)) (λnz Z=>?_) (λs⟨f,q,hf⟩=>?_)
     ·refine wad (wab (λn=>Z _ ⟨_,rfl,?_⟩) (λn=>Z _ ⟨_,rfl,?_⟩))
      ·have n:=wcd n;simp[n]
      ·have n:=wce n;simp only[wcy];omega
     ·subst q;dsimp only;refine wab (λn=>h6.fst _ (wan (by simp) (v _ ?_ (by simp)))) (λn=>wad ?_)
      ·unfold zlp;rw[if_neg (λh=>h O),if_neg U,if_neg (λh=>h F),if_pos (hf.1 n)]
      rw[wI (by omega) (by omega)];refine C (g.1.length-(k+1)) _ (by omega) ⟨k+1,by omega,rfl,rfl,λi x K w=>?_⟩;by_cases H:i<k
      ·exact N i x H w
      ·have:i=k:=by omega
       subst this;rw[o]at w;cases w;unfold zlp;rw[if_neg (λh=>h O),if_neg U,if_neg (λh=>h F),if_neg (λh=>by rw[hf.2 h]at n;cases n)]
   ·have c:=wce c;exact zfg λj x w=>N j x (by have:=(wcg.1 w).1;omega) w
  ·obtain⟨f5,d5,c5⟩:=s;obtain⟨D,E⟩:=q;simp only at D E;refine wab (λc=>h2 _ ?_) (λc=>?_)
   ·obtain⟨q1,P⟩:=D c;rw[g1,vk,if_neg q1];exact P
   obtain⟨q1,rfl⟩:=E c;have g2:gFd g=jz (zof g++(zl6 g++([zi9 g]++zlz g))):=by rw[g1,vk,if_pos (by rw[q1])]
   dsimp only;refine Tt.J (Stg g (zof g)) (λi4 h8=>?_) (λs q=>?_)
   ·refine Waa (jlz g.1 ht) waa λns V=>?_;subst V;refine Tt.loop (λm s=>∃(k:Nat),k<=g.2.1.length/\m=g.2.1.length-k/\s=(g.2.1,(g.2.1.length:Int),(k:Int),c0 g,g.1.map (·.1)++g.2.1.take k)/\∀(i:Nat)(x:List UInt8),i<k->g.2.1[i]?=some x->(zyr g i x).1=0) g.2.1.length waa ⟨0,by omega,by omega,by simp,λi x K=>by omega⟩ λm s⟨k,hk,hm,q,N⟩ nx C=>?_;subst q;dsimp only;refine wab (λc=>?_) (λc=>h8.fst _ (wbi ?_))
    ·have c:=wcd c;have u:k<g.2.1.length:=by omega
     have o:=wcf u;have d0:=wcn u;refine wac _ (atN u) ?_;generalize g.2.1[k]=t at o d0⊢;have v:∀d,zyr g k t=d->d.1≠0->jz (zof g)=d:=λd e hd=>by
      unfold zof;rw[zrm o (by rw[e];exact hd) λj y I G=>N j y I G,e]
     refine Tt.J (λs=>∃f R,s=(t,g.2.1,(g.2.1.length:Int),(k:Int),f,R,g.1.map (·.1)++g.2.1.take k)/\(f=true->R.2.1.1≠0/\jz (zof g)=R.2.1)/\(f=false->R=c0 g/\(zyr g k t).1=0)) (λny A=>?_) (λs⟨f,R,q,k1,k2⟩=>?_)
     ·refine Waa (jpc _) waa.fst λb hb=>wab (λn=>A _ ⟨_,_,rfl,λ_=>⟨(by decide:(7:Int)≠0),v _ ?_ (by simp)⟩,λh=>by cases h⟩) (λn=>?_)
      ·have O:¬Zn t:=λh=>by rw[hb.2 h]at n;cases n
       unfold zyr;rw[if_pos O]
      have O:Zn t:=hb.1 (by simpa using n);refine Waa (jo1 _ _ (by simp;omega)) waa.fst λz hz=>wab (λB=>A _ ⟨_,_,rfl,λ_=>⟨(by decide:(8:Int)≠0),v _ ?_ (by simp)⟩,λh=>by cases h⟩) (λB=>A _ ⟨_,_,rfl,λh=>(by cases h),λ_=>⟨rfl,?_⟩⟩)
      ·have B:=wcd B;rw[hz,z4q]at B;unfold zyr;rw[if_neg (λh=>h O),if_pos B]
      ·have B:=wce B;rw[hz,z4q]at B;unfold zyr;rw[if_neg (λh=>h O),if_neg B]
     ·subst q;dsimp only;refine wab (λc=>h8.fst _ (wan (k1 c).1 (k1 c).2)) (λc=>?_);obtain⟨rfl,hz⟩:=k2 c;refine wac _ (yf (by simp;omega) (by omega)) (wad ?_);rw[wI (by omega) (by omega)];refine C (g.2.1.length-(k+1)) _ (by omega) ⟨k+1,by omega,rfl,by rw[d0,wc6];rfl,λi x K w=>?_⟩;by_cases H:i<k
      ·exact N i x H w
      ·have:i=k:=by omega
       subst this;rw[o]at w;cases w;exact hz
    ·have c:=wce c;exact zfg λj x w=>N j x (by have:=(wcg.1 w).1;omega) w
   ·obtain⟨f7,d7,c7⟩:=s;obtain⟨D,E⟩:=q;simp only at D E;refine wab (λc=>h2 _ ?_) (λc=>?_)
    ·obtain⟨q1,P⟩:=D c;rw[g2,vk,if_neg q1];exact P
    obtain⟨P,rfl⟩:=E c;have g3:gFd g=jz (zl6 g++([zi9 g]++zlz g)):=by rw[g2,vk,if_pos (by rw[P])]
    dsimp only;refine Tt.J (Stg g (zl6 g)) (λg0 a7=>?_) (λs q=>?_)
    ·refine Tt.J (λs=>∀a,Stg g (zl6 g) (s.1,a,s.2)) (λg6 b4=>?_) (λs q=>a7 _ (q _));refine Tt.loop (λm s=>∃k:Nat,k<=g.2.2.1.length/\m=g.2.2.1.length-k/\s=(g.2.2.1,(g.2.2.1.length:Int),(k:Int),c0 g)/\∀(i:Nat)(x:jh),i<k->g.2.2.1[i]?=some x->(zlq g i x).1=0) g.2.2.1.length waa ⟨0,by omega,by omega,rfl,λi x K=>by omega⟩ λm s⟨k,hk,hm,q,M⟩ nx C=>?_;subst q;dsimp only;refine wab (λc=>?_) (λc=>b4.fst _ λa=>wbi ?_)
     ·have c:=wcd c;have u:k<g.2.2.1.length:=by omega
      have o:=wcf u;refine wac _ (atN u) ?_;generalize g.2.2.1[k]=p at o⊢;have v:∀d,zlq g k p=d->d.1≠0->jz (zl6 g)=d:=λd e hd=>by
       unfold zl6;rw[zrm o (by rw[e];exact hd) λj y I G=>M j y I G,e]
      refine Tt.J (λs=>∃f,s=((k:Int),g.2.2.1,(g.2.2.1.length:Int),(k:Int),f,c0 g,p)/\(f=true↔p.1<0\/(g.2.1.length:Int)<=p.1)) (λny A=>?_) (λs⟨f,q,hl⟩=>?_)
      ·refine wad (wab (λn=>A _ ⟨true,rfl,?_⟩) (λn=>A _ ⟨_,rfl,?_⟩))
       ·have n:=wcd n;simp[n]
       ·have n:=wce n;simp only[wcy];omega
      ·subst q;dsimp only;refine wab (λW=>a7.fst _ (wan (by simp) (v _ ?_ (by simp)))) (λW=>?_)
       ·unfold zlq;rw[if_pos (hl.1 W)]
       have S:¬(p.1<0\/(g.2.1.length:Int)<=p.1):=λh=>by rw[hl.2 h]at W;cases W
       refine wab (λQ=>a7.fst _ (wan (by simp) (v _ ?_ (by simp)))) (λQ=>?_)
       ·have Q:=wcd Q;unfold zlq;rw[if_neg S,if_pos (by omega)]
       have Q:=wce Q;have c4:zlq g k p=je9 g k p.2.1:=by unfold zlq;rw[if_neg S,if_neg (by omega)]
       refine Tt.loop (λm s=>∃i:Nat,i<=p.2.1.length/\m=p.2.1.length-i/\s=((k:Int),g.2.2.1,(g.2.2.1.length:Int),(k:Int),p.2.1,(p.2.1.length:Int),(i:Int),c0 g)/\∀(j:Nat)(x:ji),j<i->p.2.1[j]?=some x->itE g x=0) p.2.1.length waa.fst ⟨0,by omega,by omega,rfl,λi x K=>by omega⟩ λm s⟨i,K,h5,q,b0⟩ nz Z=>?_;subst q;dsimp only;refine wab (λc=>?_) (λc=>?_)
       ·have c:=wcd c;have a9:i<p.2.1.length:=by omega
        refine wac _ (atN a9) (Waa (itemE g (0,0,0,()) (p.2.1[i])) waa.fst.fst λe he=>?_);refine wab (λF=>b4.fst.fst _ λa=>?_) (λF=>wad ?_)
        ·have F:=wcd F;rw[wI (by omega) (by omega)];refine wan F (v _ ?_ F);rw[c4];unfold je9;rw[zrm (wcf a9) (by simp only;rw[<- he];exact F) λj y I G=>b0 j y I G,he]
        have F:e=0:=wek.1 (wce F);rw[wI (by omega) (by omega)];refine Z (p.2.1.length-(i+1)) _ (by omega) ⟨i+1,by omega,rfl,rfl,λj x I w=>?_⟩;by_cases e0:j<i
        ·exact b0 j x e0 w
        ·have:j=i:=by omega
         subst this;rw[wcf a9]at w;cases w;rw[<- he];exact F
       ·have c:=wce c;refine wad ?_;rw[wI (by omega) (by omega)];refine Tt.fst (C (g.2.2.1.length-(k+1)) _ (by omega) ⟨k+1,by omega,rfl,rfl,λj x I w=>?_⟩);by_cases e1:j<k
        ·exact M j x e1 w
        ·have:j=k:=by omega
         subst this;rw[o]at w;cases w;rw[c4];unfold je9;rw[zfg λj2 y G=>b0 j2 y (by have:=(wcg.1 G).1;omega) G]
     ·have c:=wce c;exact zfg λj x w=>M j x (by have:=(wcg.1 w).1;omega) w
    ·obtain⟨f9,d9,c9⟩:=s;obtain⟨D,E⟩:=q;simp only at D E;refine wab (λc=>h2 _ ?_) (λc=>?_)
     ·obtain⟨q1,P⟩:=D c;rw[g3,vk,if_neg q1];exact P
     obtain⟨q3,rfl⟩:=E c;have g4:gFd g=jz ([zi9 g]++zlz g):=by rw[g3,vk,if_pos (by rw[q3])]
     dsimp only;refine Tt.J (λs=>(jz ([zi9 g]++zlz g))=s.2.2.2.1) (λg5 X=>?_) (λs q=>?_)
     ·refine Tt.J (λs=>∃f,s=(f,c0 g)/\(f=true↔g.2.2.2.1<0\/(g.2.1.length:Int)<=g.2.2.2.1)) (λny A=>?_) (λs⟨f,q,c8⟩=>?_)
      ·refine wad (wab (λn=>A _ ⟨true,rfl,?_⟩) (λn=>A _ ⟨_,rfl,?_⟩))
       ·have n:=wcd n;simp[n]
       ·have n:=wce n;simp only[wcy];omega
      ·subst q;dsimp only;refine wab (λW=>X _ ?_) (λW=>?_)
       ·have e:zi9 g=(11, -1,0,()):=by unfold zi9;rw[if_pos (c8.1 W)]
        rw[vk,e];rfl
       have e:zi9 g=zd:=by unfold zi9;rw[if_neg (λh=>by rw[c8.2 h]at W;cases W)]
       have e2:jz ([zi9 g]++zlz g)=jz (zlz g):=by rw[vk,e];rfl
       rw[e2]at X;refine Tt.loop (λm s=>∃k:Nat,k<=g.2.1.length/\m=g.2.1.length-k/\s=((g.2.1.length:Int),(k:Int),c0 g)/\∀(i:Nat)(x:List UInt8),i<k->g.2.1[i]?=some x->(z5s g i x).1=0) g.2.1.length waa ⟨0,by omega,by omega,rfl,λi x K=>by omega⟩ λm s⟨k,hk,hm,q,M⟩ nx C=>?_;subst q;dsimp only;refine wab (λc=>?_) (λc=>X.fst _ ?_)
       ·have c:=wcd c;have u:k<g.2.1.length:=by omega
        have o:=wcf u;refine Waa (OfE g hg.toGLen (k:Int)) waa.fst λl hl=>wab (λn=>X.fst _ ?_) (λn=>wad ?_)
        ·have n:=wcd n;have en:z5s g k g.2.1[k]=(5,(k:Int),0,()):=by unfold z5s;rw[if_pos (by rw[hl]at n;omega)]
         unfold zlz;rw[zrm o (by rw[en];simp) λj y I G=>M j y I G,en]
        ·have n:=wce n;rw[wI (by omega) (by omega)];refine C (g.2.1.length-(k+1)) _ (by omega) ⟨k+1,by omega,rfl,rfl,λi x K w=>?_⟩;by_cases H:i<k
         ·exact M i x H w
         ·have:i=k:=by omega
          subst this;unfold z5s;rw[if_neg (by rw[hl]at n;omega)]
       ·have c:=wce c;exact zfg λj x w=>M j x (by have:=(wcg.1 w).1;omega) w
     ·obtain⟨h0,g8,g7⟩:=s;simp only at q;exact wab (λc=>h2 _ (by rw[g4,q])) (λc=>h2 _ (by rw[g4,q]))
theorem zjt:∀{l:List jd},(jz l).1=0->jz l=zd
 |[],_=>rfl
 |d::l,h=>by
  unfold jz at h⊢;by_cases c:d.1=0
  ·rw[if_pos c]at h⊢;exact zjt h
  ·rw[if_neg c]at h;exact absurd h c
section
variable{P L:List jd}{k:Nat}{d x:jd}
theorem zng(h:d=jz (P++L.take k))(a:¬(d.1=0/\k<L.length)):d=jz (P++L):=by
 by_cases c:k<L.length
 ·have b:d.1≠0:=λe=>a ⟨e,c⟩;have e:P++L=(P++L.take k)++L.drop k:=by rw[wc6,wdq]
  rw[e,vk,if_neg (by rw[<- h];exact b)];exact h
 ·rw[wd4 (by omega)]at h;exact h
theorem zov(h:d=jz (P++L.take k))(f:d.1=0)(a:L[k]?=some x)(hz:x.1=0->x=zd):x=jz (P++L.take (k+1)):=by
 have b:=(wcg.1 a).1;have e:L.take (k+1)=L.take k++[x]:=by
  rw[wcn b];congr 1;rw[wcf b]at a;cases a;rfl
 rw[e,<- wc6,vk,if_pos (by rw[<- h];exact f)];unfold jz;by_cases c:x.1=0
 ·rw[if_pos c,hz c];rfl
 ·rw[if_neg c]
end
theorem jih{l:List (List UInt8)}{x:List UInt8}{i:Nat}(hi:i<=l.length)(a:x∈l):fIx l x<(i:Int)↔x∈l.take i:=by
 unfold fIx;rw[if_pos a];have e:l.idxOf x=if x∈l.take i then(l.take i).idxOf x else(l.drop i).idxOf x+(l.take i).length:=by
  rw[<- List.idxOf_append,wdq]
 have b:(l.take i).length=i:=by rw[wdl];omega
 by_cases h:x∈l.take i
 ·rw[if_pos h]at e;have:=List.idxOf_lt_length_iff.2 h;simp only[h,iff_true];omega
 ·rw[if_neg h]at e;simp only[h,iff_false];omega
theorem z6p(l:List (List UInt8))(k:l.length<=2000000)(i:Nat)(x:List UInt8)(e:l[i]?=some x)(hm:x.length<=9223372036854775807):Tn (λm=>za2 m l (i:Int)) (λr=>r=7/\¬Zn x\/r=8/\Zn x/\x∈l.take i\/r=0/\Zn x/\x∉l.take i):=by
 have n:=(wcg.1 e).1;have f:atL l (i:Int)=some x:=Jo (by omega) (by simpa using e);have d:x∈l:=wck e;unfold za2;refine wac _ f (Waa (jhl x hm) waa λb g=>wab (λc=>Tt.pure (.inl ⟨rfl,λh=>by rw[g.2 h]at c;cases c⟩)) λc=>?_);have j:Zn x:=g.1 (by simpa using c);refine wac _ f (Waa (jio l x k) waa λz hz=>?_);subst hz;refine wab (λa=>Tt.pure (.inr (.inl ⟨rfl,j,?_⟩))) λa=>Tt.pure (.inr (.inr ⟨rfl,j,?_⟩))
 ·have a:=wcd a;exact(jih (by omega) d).1 a
 ·have a:=wce a;exact λh=>a ((jih (by omega) d).2 h)
structure zc4(g:jb):Prop extends Y1 g where
 nm:∀x∈g.1,x.1.length<=9223372036854775807
 rm:∀x∈g.2.1,x.length<=9223372036854775807
 im:∀x∈g.2.2.1,x.2.1.length<=9223372036854775807
theorem jgj(g:jb)(j:zc4 g)(i:Nat)(t:qe)(l:g.1[i]?=some t):Tn (λy=>zcc y g (i:Int)) (λd=>d=zlp g i t):=by
 have z:=j.t;have A:=j.r;have v:=(wcg.1 l).1;have p:=wck l;unfold zcc;refine wac _ (Jo (by omega) (by simpa using l)) (Waa (z1x g j.toGLen) waa λB m=>?_);subst m;have x:(zb0 g)[i]?=some t.1:=by unfold zb0;rw[wcr (by simpa using v),wcp,l];rfl
 have n:(zb0 g).take i=(g.1.map (·.1)).take i:=by unfold zb0;rw[wfn (by simp;omega)]
 refine Waa (z6p (zb0 g) (by unfold zb0;simp;omega) i t.1 x (j.nm t p)) waa λr q=>?_;rw[n]at q;unfold zlp;rcases q with⟨rfl,a⟩|⟨rfl,a,b⟩|⟨rfl,a,b⟩
 ·rw[if_pos a];exact wah rfl (Tt.pure rfl)
 ·rw[if_neg (λh=>h a),if_pos b];exact wah rfl (Tt.pure rfl)
 ·rw[if_neg (λh=>h a),if_neg b];refine wae rfl (Waa (zgp _ (j.tn t p)) waa λe u=>?_);subst u;refine wab (λc=>Tt.pure ?_) λc=>?_
  ·rw[if_pos (wcd c)]
  rw[if_neg (wce c)];refine Tt.J (λs=>∃b,s=((i:Int),b,zd)/\(b=true↔t.2.2.1<0\/3<t.2.2.1)) (λC k=>?_) (λs⟨b,w,o⟩=>?_)
  ·refine wad (wab (λf=>k _ ⟨_,rfl,?_⟩) λf=>k _ ⟨_,rfl,?_⟩)
   ·have f:=wcd f;simp[f]
   ·have f:=wce f;simp only[wcy];omega
  ·subst w;exact wab (λf=>Tt.pure (by rw[if_pos (o.1 f)])) λf=>Tt.pure (by rw[if_neg (λh=>by rw[o.2 h]at f;cases f)])
theorem tokD_z{g:jb}{i:Nat}{t:qe}(h:(zlp g i t).1=0):zlp g i t=zd:=by
 unfold zlp at h⊢;split at h<;>first|cases h|skip
 rename_i a;rw[if_neg a];split at h<;>first|cases h|skip
 rename_i b;rw[if_neg b];split at h<;>first|cases h|skip
 rename_i c;rw[if_neg c];split at h<;>first|cases h|skip
 rename_i d;rw[if_neg d]
theorem ji9(g:jb)(B:zc4 g)(i:Nat)(p:jh)(w:g.2.2.1[i]?=some p):Tn (λG=>zdw G g (i:Int)) (λd=>d=zlq g i p):=by
 have I:=B.r;have K:=(wcg.1 w).1;have E:=B.im p (wck w);unfold zdw;refine wac _ (Jo (by omega) (by simpa using w)) ?_;refine Tt.J (λs=>∃b,s=((i:Int),b,g,zd,p)/\(b=true↔p.1<0\/(g.2.1.length:Int)<=p.1)) (λH f=>?_) (λs⟨b,z,A⟩=>?_)
 ·refine wad (wab (λa=>f _ ⟨_,rfl,?_⟩) λa=>f _ ⟨_,rfl,?_⟩)
  ·have a:=wcd a;simp[a]
  ·have a:=wce a;simp only[wcy];omega
 ·subst z;dsimp only;unfold zlq;refine wab (λa=>Tt.pure (by rw[if_pos (A.1 a)])) λa=>?_;rw[if_neg (λh=>by rw[A.2 h]at a;cases a)];refine wab (λq=>Tt.pure ?_) λq=>?_
  ·have q:=wcd q;rw[if_pos (by omega)]
  have q:=wce q;rw[if_neg (by omega)];unfold je9;refine Tt.loop (λm s=>∃k:Nat,k<=p.2.1.length/\m=p.2.1.length-k/\s=((i:Int),(k:Int),g,zd,p)/\∀(j:Nat)(x:ji),j<k->p.2.1[j]?=some x->itE g x=0) p.2.1.length waa ⟨0,by omega,by omega,rfl,λj x h=>by omega⟩ λm s⟨k,L,E,z,l⟩ H f=>?_;subst z;dsimp only;refine wab (λc=>?_) (λc=>Tt.pure ?_)
  ·have c:=wcd c;have n:k<p.2.1.length:=by omega
   refine wac _ (atN n) (Waa (ji6 g _) waa.fst λe u=>wab (λt=>Tt.pure ?_) λt=>wad ?_)
   ·have t:=wcd t;rw[wI (by omega) (by omega),zrm (wcf n) (by simp only;rw[<- u];exact t) λj y C F=>l j y C F,u]
   ·have D:e=0:=wek.1 (wce t);rw[wI (by omega) (by omega)];refine f (p.2.1.length-(k+1)) _ (by omega) ⟨k+1,by omega,rfl,rfl,λj x C o=>?_⟩;by_cases v:j<k
    ·exact l j x v o
    ·have:j=k:=by omega
     subst this;rw[wcf n]at o;cases o;rw[<- u];exact D
  ·have c:=wce c;rw[zfg λj x o=>l j x (by have:=(wcg.1 o).1;omega) o]
theorem prdD_z{g:jb}{i:Nat}{p:jh}(h:(zlq g i p).1=0):zlq g i p=zd:=by
 unfold zlq at h⊢;split at h<;>first|cases h|skip
 rename_i a;rw[if_neg a];split at h<;>first|cases h|skip
 rename_i b;rw[if_neg b];exact zjt h
theorem jgp(g:jb)(n:GLen g):Tn (λv=>zcd v g) (λd=>d=jz (szA g++szB g)):=by
 have w:=n.t;have x:=n.r;have y:=n.p;have q:szA g++szB g=[if 0<(g.1.length:Int)-64 then(4,0,0,())else zd,if 0<(g.2.1.length:Int)-64 then(4,1,0,())else zd,if 0<(g.2.2.1.length:Int)-256 then(4,2,0,())else zd,
  if g.2.2.2.2.1<1\/4096<g.2.2.2.2.1 then(2,0,0,())else zd,if g.2.2.2.2.2.1<0\/65536<g.2.2.2.2.2.1 then(2,1,0,())else zd,if g.2.2.2.2.2.2.1<1\/65536<g.2.2.2.2.2.2.1 then(2,2,0,())else zd,if g.2.2.2.2.2.2.2.1<1\/1048576<g.2.2.2.2.2.2.2.1 then(2,3,0,())else zd]:=rfl
 rw[q];have k:∀{c:Prop}[Decidable c]{d:jd}{l:List jd},c->d.1≠0->jz ((if c then d else zd)::l)=d:=λm u=>by unfold jz;rw[if_pos m,if_neg u]
 have i:∀{c:Prop}[Decidable c]{d:jd}{l:List jd},¬c->jz ((if c then d else zd)::l)=jz l:=λm=>by rw[if_neg m];exact if_pos rfl
 unfold zcd;refine wab (λc=>Tt.pure ?_) λc=>?_
 ·have c:=wcd c;rw[k (by omega) (by simp)]
 have c:=wce c;rw[i (by omega)];refine wab (λc=>Tt.pure ?_) λc=>?_
 ·have c:=wcd c;rw[k (by omega) (by simp)]
 have c:=wce c;rw[i (by omega)];refine wab (λc=>Tt.pure ?_) λc=>?_
 ·have c:=wcd c;rw[k (by omega) (by simp)]
 have c:=wce c;rw[i (by omega)];refine Tt.J (λs=>∃b,s=(b,g,zd)/\(b=true↔g.2.2.2.2.1<1\/4096<g.2.2.2.2.1)) (λo e=>wad (wab (λa=>e _ ⟨_,rfl,by have a:=wcd a;simp[a]⟩) λa=>e _ ⟨_,rfl,by have a:=wce a;simp only[wcy];omega⟩)) (λs⟨b,j,f⟩=>?_);subst j;dsimp only;refine wab (λc=>Tt.pure ?_) λc=>?_
 ·rw[k (f.1 c) (by simp)]
 rw[i (λh=>by rw[f.2 h]at c;cases c)];refine Tt.J (λs=>∃b,s=(b,g,zd)/\(b=true↔g.2.2.2.2.2.1<0\/65536<g.2.2.2.2.2.1)) (λo e=>wad (wab (λa=>e _ ⟨_,rfl,by have a:=wcd a;simp[a]⟩) λa=>e _ ⟨_,rfl,by have a:=wce a;simp only[wcy];omega⟩)) (λs⟨b,j,f⟩=>?_);subst j;dsimp only;refine wab (λc=>Tt.pure ?_) λc=>?_
 ·rw[k (f.1 c) (by simp)]
 rw[i (λh=>by rw[f.2 h]at c;cases c)];refine Tt.J (λs=>∃b,s=(b,g,zd)/\(b=true↔g.2.2.2.2.2.2.1<1\/65536<g.2.2.2.2.2.2.1)) (λo e=>wad (wab (λa=>e _ ⟨_,rfl,by have a:=wcd a;simp[a]⟩) λa=>e _ ⟨_,rfl,by have a:=wce a;simp only[wcy];omega⟩)) (λs⟨b,j,f⟩=>?_);subst j;dsimp only;refine wab (λc=>Tt.pure ?_) λc=>?_
 ·rw[k (f.1 c) (by simp)]
 rw[i (λh=>by rw[f.2 h]at c;cases c)];refine Tt.J (λs=>∃b,s=(b,zd)/\(b=true↔g.2.2.2.2.2.2.2.1<1\/1048576<g.2.2.2.2.2.2.2.1)) (λo e=>wad (wab (λa=>e _ ⟨_,rfl,by have a:=wcd a;simp[a]⟩) λa=>e _ ⟨_,rfl,by have a:=wce a;simp only[wcy];omega⟩)) (λs⟨b,j,f⟩=>?_);subst j;dsimp only;refine wab (λc=>Tt.pure ?_) λc=>Tt.pure ?_
 ·rw[k (f.1 c) (by simp)]
 ·rw[i (λh=>by rw[f.2 h]at c;cases c)];rfl
end
end Go.Proofs.YtigdmmgklieofaaGreat.T
