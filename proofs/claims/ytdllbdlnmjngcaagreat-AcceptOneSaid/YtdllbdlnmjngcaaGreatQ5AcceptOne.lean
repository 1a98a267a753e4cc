/-
  Texts of this proof, put together: E1, Rg, Ri, Qa, Qb, Qc, Qd, Qe, Qf, Qg, Qh.
-/
import Derived.Lib.RuneCount
import Derived.Test.YtdllbdlnmjngcaaGreatQ4AcceptOne

namespace Go.Proofs.YtdllbdlnmjngcaaGreat.T
open Go Go.RowKit L
set_option linter.unusedVariables false
abbrev Y_api_Rx:Ty:=(.st (.cons (.int .i64) (.cons (.arr 4 (.int .u64)) .nil)))
abbrev jj:=(Int×(Arr 4 Int)×Unit)
abbrev Y_api_Token:Ty:=(.st (.cons .str (.cons (.sl Y_api_Rx) (.cons (.int .i64) .nil))))
abbrev qh:=((List UInt8)×(List jj)×Int×Unit)
abbrev Y_api_Item:Ty:=(.st (.cons .bool (.cons (.int .i64) (.cons (.int .i64) (.cons (.int .i64) .nil)))))
abbrev jf:=(Bool×Int×Int×Int×Unit)
abbrev Y_api_Prod:Ty:=(.st (.cons (.int .i64) (.cons (.sl Y_api_Item) .nil)))
abbrev jh:=(Int×(List jf)×Unit)
abbrev Y_api_Grammar:Ty:=(.st (.cons (.sl Y_api_Token) (.cons (.sl .str) (.cons (.sl Y_api_Prod) (.cons (.int .i64) (.cons (.int .i64) (.cons (.int .i64) (.cons (.int .i64) (.cons (.int .i64) .nil)))))))))
abbrev jb:=((List qh)×(List (List UInt8))×(List jh)×Int×Int×Int×Int×Int×Unit)
abbrev jl:Ty:=(.st (.cons (.int .i64) (.cons (.int .i64) (.cons (.int .i64) .nil))))
abbrev jk:=(Int×Int×Int×Unit)
abbrev Y_api_Dfa:Ty:=(.st (.cons (.arr 256 (.int .u8)) (.cons (.int .i64) (.cons (.sl (.sl (.int .i64))) (.cons (.sl (.int .i64)) .nil)))))
abbrev D_api_Dfa:=((Arr 256 Int)×Int×(List (List Int))×(List Int)×Unit)
abbrev jx:Ty:=(.st (.cons Y_api_Grammar (.cons jl .nil)))
abbrev ju:=(jb×jk×Unit)
abbrev Yq:Ty:=(.st (.cons (.sl .bool) (.cons (.sl (.sl (.int .i64))) .nil)))
abbrev Yi:=((List Bool)×(List (List Int))×Unit)
abbrev y6:Ty:=(.st (.cons Y_api_Grammar (.cons Y_api_Dfa (.cons (.sl (.sl (.int .i64))) .nil))))
abbrev y5:=(jb×D_api_Dfa×(List (List Int))×Unit)
abbrev je:Ty:=(.st (.cons .bool (.cons (.int .i64) (.cons (.int .i64) (.cons .bool (.cons (.arr 4 (.int .u64)) (.cons (.arr 4 (.int .u64)) .nil)))))))
abbrev jd:=(Bool×Int×Int×Bool×(Arr 4 Int)×(Arr 4 Int)×Unit)
abbrev zw5:Ty:=(.st (.cons (.sl (.int .i64)) (.cons (.sl (.int .i64)) (.cons .bool .nil))))
abbrev zze:=((List Int)×(List Int)×Bool×Unit)
abbrev qi:Ty:=(.st (.cons zw5 (.cons (.int .i64) .nil)))
abbrev jo:=(zze×Int×Unit)
abbrev zoj:Ty:=(.st (.cons (.sl (.arr 4 (.int .u64))) (.cons (.sl (.sl (.int .i64))) (.cons qi .nil))))
abbrev zp3:=((List (Arr 4 Int))×(List (List Int))×jo×Unit)
abbrev j9:Ty:=(.st (.cons (.sl (.arr 4 (.int .u64))) (.cons (.sl (.int .i64)) (.cons (.sl .bool) (.cons (.sl (.sl (.int .i64))) (.cons (.sl (.int .i64)) .nil))))))
abbrev js:=((List (Arr 4 Int))×(List Int)×(List Bool)×(List (List Int))×(List Int)×Unit)
abbrev zi:Ty:=(.st (.cons (.int .u8) (.cons .bool .nil)))
abbrev yq:=(Int×Bool×Unit)
set_option maxRecDepth 100000 in
noncomputable def zt0:ZT:=fun t=>cond (Nat.beq t 3) (some [.c (.int .i64 0)]) (cond (Nat.beq t 4) (some [.c (.bool false)]) (cond (Nat.beq t 26) (some [.c (.slice none 0 0), .c (.slice none 0 0), .c (.slice none 0 0), .c (.int .i64 0), .c (.int .i64 0), .c (.int .i64 0), .c (.int .i64 0), .c (.int .i64 0)]) (cond (Nat.beq t 29) (some [.v ⟨(.arr 256 (.int .u8)),⟨List.replicate 256 0,List.length_replicate⟩⟩]) (cond (Nat.beq t 30) (some [.c (.slice none 0 0)]) (cond (Nat.beq t 31) (some [.c (.slice none 0 0)]) (cond (Nat.beq t 33) (some [.v ⟨(.arr 256 (.int .u8)),⟨List.replicate 256 0,List.length_replicate⟩⟩, .c (.int .i64 0), .c (.slice none 0 0), .c (.slice none 0 0)]) (cond (Nat.beq t 36) (some [.c (.int .i64 0), .c (.int .i64 0), .c (.int .i64 0)]) (cond (Nat.beq t 42) (some [.c (.slice none 0 0)]) (cond (Nat.beq t 48) (some [.c (.string ⟨#[]⟩), .c (.slice none 0 0), .c (.int .i64 0)]) (cond (Nat.beq t 54) (some [.c (.bool false), .c (.int .i64 0), .c (.int .i64 0), .c (.int .i64 0)]) (cond (Nat.beq t 61) (some [.c (.slice none 0 0), .c (.slice none 0 0), .c (.slice none 0 0), .c (.slice none 0 0), .c (.slice none 0 0)]) (cond (Nat.beq t 66) (some [.c (.int .i64 0), .c (.slice none 0 0)]) (cond (Nat.beq t 69) (some [.c (.slice none 0 0), .c (.slice none 0 0), .c (.slice none 0 0), .c (.int .i64 0), .c (.int .i64 0), .c (.int .i64 0), .c (.int .i64 0), .c (.int .i64 0), .v ⟨(.arr 256 (.int .u8)),⟨List.replicate 256 0,List.length_replicate⟩⟩, .c (.int .i64 0), .c (.slice none 0 0), .c (.slice none 0 0), .c (.slice none 0 0)]) (cond (Nat.beq t 74) (some [.c .nilFunc]) (cond (Nat.beq t 97) (some [.v ⟨(.arr 4 (.int .u64)),⟨List.replicate 4 0,List.length_replicate⟩⟩]) (cond (Nat.beq t 126) (some [.c (.int .i64 0), .v ⟨(.arr 4 (.int .u64)),⟨List.replicate 4 0,List.length_replicate⟩⟩]) (cond (Nat.beq t 134) (some [.c (.slice none 0 0), .c (.slice none 0 0), .c (.slice none 0 0), .c (.int .i64 0), .c (.int .i64 0), .c (.int .i64 0), .c (.int .i64 0), .c (.int .i64 0), .c (.int .i64 0), .c (.int .i64 0), .c (.int .i64 0)]) (cond (Nat.beq t 136) (some [.c .nilFunc]) (cond (Nat.beq t 167) (some [.v ⟨(.arr 3 (.int .i64)),⟨List.replicate 3 0,List.length_replicate⟩⟩]) (cond (Nat.beq t 173) (some [.c (.bool false), .c (.int .i64 0), .c (.int .i64 0), .c (.bool false), .v ⟨(.arr 4 (.int .u64)),⟨List.replicate 4 0,List.length_replicate⟩⟩, .v ⟨(.arr 4 (.int .u64)),⟨List.replicate 4 0,List.length_replicate⟩⟩]) (cond (Nat.beq t 175) (some [.c (.map none)]) (cond (Nat.beq t 183) (some [.c (.slice none 0 0), .c (.slice none 0 0), .c (.slice none 0 0), .c (.slice none 0 0)]) (cond (Nat.beq t 203) (some [.c (.slice none 0 0), .c (.slice none 0 0), .c (.bool false)]) (cond (Nat.beq t 205) (some [.c (.slice none 0 0), .c (.slice none 0 0), .c (.bool false), .c (.int .i64 0)]) (cond (Nat.beq t 207) (some [.c (.slice none 0 0), .c (.slice none 0 0), .c (.slice none 0 0), .c (.slice none 0 0), .c (.bool false), .c (.int .i64 0)]) (cond (Nat.beq t 211) (some [.c (.pointer none)]) (cond (Nat.beq t 214) (some [.c (.slice none 0 0), .c (.slice none 0 0)]) (cond (Nat.beq t 220) (some [.c .nilFunc, .c .nilFunc, .c .nilFunc]) (cond (Nat.beq t 223) (some [.c (.int .u8 0), .c (.bool false)]) (cond (Nat.beq t 230) (some [.c (.slice none 0 0)]) (cond (Nat.beq t 247) (some [.c (.int .u64 0)]) (none))))))))))))))))))))))))))))))))
set_option maxRecDepth 100000 in
theorem z7t:zdl Tryz.prog zt0:=fun t xs h=>by
 simp only[zt0] at h
 refine yb h (fun e h=>?_) fun h=>?_
 ·subst e;cases h;exact⟨(q7 Tryz.prog 3).getD [],by kernel_rfl,by kernel_rfl,RefL.of_eq (by kernel_rfl)⟩
 refine yb h (fun e h=>?_) fun h=>?_
 ·subst e;cases h;exact⟨(q7 Tryz.prog 4).getD [],by kernel_rfl,by kernel_rfl,RefL.of_eq (by kernel_rfl)⟩
 refine yb h (fun e h=>?_) fun h=>?_
 ·subst e;cases h;exact⟨(q7 Tryz.prog 26).getD [],by kernel_rfl,by kernel_rfl,RefL.of_eq (by kernel_rfl)⟩
 refine yb h (fun e h=>?_) fun h=>?_
 ·subst e;cases h;exact⟨(q7 Tryz.prog 29).getD [],by kernel_rfl,by kernel_rfl,RefL.of_eq (by kernel_rfl)⟩
 refine yb h (fun e h=>?_) fun h=>?_
 ·subst e;cases h;exact⟨(q7 Tryz.prog 30).getD [],by kernel_rfl,by kernel_rfl,RefL.of_eq (by kernel_rfl)⟩
 refine yb h (fun e h=>?_) fun h=>?_
 ·subst e;cases h;exact⟨(q7 Tryz.prog 31).getD [],by kernel_rfl,by kernel_rfl,RefL.of_eq (by kernel_rfl)⟩
 refine yb h (fun e h=>?_) fun h=>?_
 ·subst e;cases h;exact⟨(q7 Tryz.prog 33).getD [],by kernel_rfl,by kernel_rfl,RefL.of_eq (by kernel_rfl)⟩
 refine yb h (fun e h=>?_) fun h=>?_
 ·subst e;cases h;exact⟨(q7 Tryz.prog 36).getD [],by kernel_rfl,by kernel_rfl,RefL.of_eq (by kernel_rfl)⟩
 refine yb h (fun e h=>?_) fun h=>?_
 ·subst e;cases h;exact⟨(q7 Tryz.prog 42).getD [],by kernel_rfl,by kernel_rfl,RefL.of_eq (by kernel_rfl)⟩
 refine yb h (fun e h=>?_) fun h=>?_
 ·subst e;cases h;exact⟨(q7 Tryz.prog 48).getD [],by kernel_rfl,by kernel_rfl,RefL.of_eq (by kernel_rfl)⟩
 refine yb h (fun e h=>?_) fun h=>?_
 ·subst e;cases h;exact⟨(q7 Tryz.prog 54).getD [],by kernel_rfl,by kernel_rfl,RefL.of_eq (by kernel_rfl)⟩
 refine yb h (fun e h=>?_) fun h=>?_
 ·subst e;cases h;exact⟨(q7 Tryz.prog 61).getD [],by kernel_rfl,by kernel_rfl,RefL.of_eq (by kernel_rfl)⟩
 refine yb h (fun e h=>?_) fun h=>?_
 ·subst e;cases h;exact⟨(q7 Tryz.prog 66).getD [],by kernel_rfl,by kernel_rfl,RefL.of_eq (by kernel_rfl)⟩
 refine yb h (fun e h=>?_) fun h=>?_
 ·subst e;cases h;exact⟨(q7 Tryz.prog 69).getD [],by kernel_rfl,by kernel_rfl,RefL.of_eq (by kernel_rfl)⟩
 refine yb h (fun e h=>?_) fun h=>?_
 ·subst e;cases h;exact⟨(q7 Tryz.prog 74).getD [],by kernel_rfl,by kernel_rfl,RefL.of_eq (by kernel_rfl)⟩
 refine yb h (fun e h=>?_) fun h=>?_
 ·subst e;cases h;exact⟨(q7 Tryz.prog 97).getD [],by kernel_rfl,by kernel_rfl,RefL.of_eq (by kernel_rfl)⟩
 refine yb h (fun e h=>?_) fun h=>?_
 ·subst e;cases h;exact⟨(q7 Tryz.prog 126).getD [],by kernel_rfl,by kernel_rfl,RefL.of_eq (by kernel_rfl)⟩
 refine yb h (fun e h=>?_) fun h=>?_
 ·subst e;cases h;exact⟨(q7 Tryz.prog 134).getD [],by kernel_rfl,by kernel_rfl,RefL.of_eq (by kernel_rfl)⟩
 refine yb h (fun e h=>?_) fun h=>?_
 ·subst e;cases h;exact⟨(q7 Tryz.prog 136).getD [],by kernel_rfl,by kernel_rfl,RefL.of_eq (by kernel_rfl)⟩
 refine yb h (fun e h=>?_) fun h=>?_
 ·subst e;cases h;exact⟨(q7 Tryz.prog 167).getD [],by kernel_rfl,by kernel_rfl,RefL.of_eq (by kernel_rfl)⟩
 refine yb h (fun e h=>?_) fun h=>?_
 ·subst e;cases h;exact⟨(q7 Tryz.prog 173).getD [],by kernel_rfl,by kernel_rfl,RefL.of_eq (by kernel_rfl)⟩
 refine yb h (fun e h=>?_) fun h=>?_
 ·subst e;cases h;exact⟨(q7 Tryz.prog 175).getD [],by kernel_rfl,by kernel_rfl,RefL.of_eq (by kernel_rfl)⟩
 refine yb h (fun e h=>?_) fun h=>?_
 ·subst e;cases h;exact⟨(q7 Tryz.prog 183).getD [],by kernel_rfl,by kernel_rfl,RefL.of_eq (by kernel_rfl)⟩
 refine yb h (fun e h=>?_) fun h=>?_
 ·subst e;cases h;exact⟨(q7 Tryz.prog 203).getD [],by kernel_rfl,by kernel_rfl,RefL.of_eq (by kernel_rfl)⟩
 refine yb h (fun e h=>?_) fun h=>?_
 ·subst e;cases h;exact⟨(q7 Tryz.prog 205).getD [],by kernel_rfl,by kernel_rfl,RefL.of_eq (by kernel_rfl)⟩
 refine yb h (fun e h=>?_) fun h=>?_
 ·subst e;cases h;exact⟨(q7 Tryz.prog 207).getD [],by kernel_rfl,by kernel_rfl,RefL.of_eq (by kernel_rfl)⟩
 refine yb h (fun e h=>?_) fun h=>?_
 ·subst e;cases h;exact⟨(q7 Tryz.prog 211).getD [],by kernel_rfl,by kernel_rfl,RefL.of_eq (by kernel_rfl)⟩
 refine yb h (fun e h=>?_) fun h=>?_
 ·subst e;cases h;exact⟨(q7 Tryz.prog 214).getD [],by kernel_rfl,by kernel_rfl,RefL.of_eq (by kernel_rfl)⟩
 refine yb h (fun e h=>?_) fun h=>?_
 ·subst e;cases h;exact⟨(q7 Tryz.prog 220).getD [],by kernel_rfl,by kernel_rfl,RefL.of_eq (by kernel_rfl)⟩
 refine yb h (fun e h=>?_) fun h=>?_
 ·subst e;cases h;exact⟨(q7 Tryz.prog 223).getD [],by kernel_rfl,by kernel_rfl,RefL.of_eq (by kernel_rfl)⟩
 refine yb h (fun e h=>?_) fun h=>?_
 ·subst e;cases h;exact⟨(q7 Tryz.prog 230).getD [],by kernel_rfl,by kernel_rfl,RefL.of_eq (by kernel_rfl)⟩
 refine yb h (fun e h=>?_) fun h=>?_
 ·subst e;cases h;exact⟨(q7 Tryz.prog 247).getD [],by kernel_rfl,by kernel_rfl,RefL.of_eq (by kernel_rfl)⟩
 cases h
set_option maxRecDepth 100000 in
noncomputable def zt2:ZT:=fun t=>cond (Nat.beq t 167) (some [.c (.int .i64 0), .c (.int .i64 0), .c (.int .i64 0)]) (zt0 t)
set_option maxRecDepth 100000 in
theorem zt2_ok:zdl Tryz.prog zt2:=fun t xs h=>by
 unfold zt2 at h
 refine yb h (fun e h=>?_) fun h=>?_
 ·subst e;cases h;exact⟨(q7 Tryz.prog 167).getD [],by kernel_rfl,by kernel_rfl,RefL.of_eq (by kernel_rfl)⟩
 exact z7t t xs h
noncomputable def zy0:ZY:=fun t=>cond (Nat.beq t 3) (some ⟨(.int .i64),0⟩) (cond (Nat.beq t 4) (some ⟨.bool,false⟩) (cond (Nat.beq t 5) (some ⟨(.int .u8),0⟩) (cond (Nat.beq t 31) (some ⟨(.sl (.int .i64)),[]⟩) (none))))
def zw9:Ty.D .str→Ty.D .str→Bool:=fun a b=>a == b
theorem jbn:zho Tryz.prog 9 (oV .str) zw9:=klawT (by kernel_rfl)
def z87 (a:Ty.D zi):Array Value:=#[.int .u8 a.1, .bool a.2.1]
def ztj (a b:Ty.D zi):List Bool:=[a.1 == b.1,a.2.1 == b.2.1]
def zb9 (a b:Ty.D zi):Bool:=(ztj a b).all id
theorem z3l:zho Tryz.prog 223 (oV zi) zb9:=jb9 (kc:=z87) (eb:=ztj) (0,false,()) (fun a b=>by kernel_rfl) (fun a b h=>by
 simp[ztj] at h
 exact Prod.ext h.1 (Prod.ext h.2 rfl)) (fun a=>by simp[z87,Instr.sameBits])
noncomputable def ky0:TypeId→Option KY:=fun k=>cond (Nat.beq k 9) (some ⟨.str,zw9⟩) (cond (Nat.beq k 223) (some ⟨zi,zb9⟩) (none))
theorem ky0_ok:z8n Tryz.prog ky0:=fun k x h=>by
 simp only[ky0] at h
 refine yb h (fun e h=>?_) fun h=>?_
 ·subst e;cases h;exact⟨rfl,jbn⟩
 refine yb h (fun e h=>?_) fun h=>?_
 ·subst e;cases h;exact⟨rfl,z3l⟩
 cases h
noncomputable def cf0:Cfg:=⟨zt0,zt2,zy0,ky0⟩
theorem zj1:z8z cf0:=⟨z7t,zt2_ok,ky0_ok⟩
theorem mk1:type_of% (@mkP cf0 zj1):=no_implicit_lambda% (@mkP cf0 zj1)
theorem mk2:type_of% (@mkF cf0 zj1):=no_implicit_lambda% (@mkF cf0 zj1)
theorem mk3:type_of% (@mkR cf0 zj1):=no_implicit_lambda% (@mkR cf0 zj1)
noncomputable def J4 (nn:Nat) (a0:(List qh)):Option (List (List UInt8)):=jt (fun(x1:(List qh)×Int×Int×(List (List UInt8))) x2=>ifB (decide (x1.2.2.1<x1.2.1)) (ja (atL x1.1 x1.2.2.1) fun x3=>ja (apO 16 x1.2.2.2 [x3.1]) fun x4=>ja (some (w64 (x1.2.2.1+1))) fun x5=>x2 (x1.1,x1.2.1,x5,x4)) (some x1.2.2.2)) nn (a0,(a0.length:Int),0,[])
noncomputable def ztm:=lk (α:=HK) [(58, .meet ⟨[(3, .own 0),(6, .v (.sl Y_api_Token)),(7, .v (.int .i64)),(8, .v (.int .i64))],[(0, .row 9 .str)],1⟩)]
noncomputable abbrev zuz (nn:Nat):FF:=⟨[(.sl Y_api_Token)],9, .str,fun t=>J4 nn t⟩
set_option maxRecDepth 100000 in
theorem zdd (nn:Nat):FFOk 142 (zuz nn):=mk2 Tryz.func142 nn 0 [(0,[17])] [(0,[(15, .told .str)])] [] [] itn ztm rn gn tn (by kernel_rfl) fun t=>by kernel_rfl
noncomputable abbrev zh6:=J4
noncomputable abbrev zui (nn:Nat):PF:=⟨[(.sl Y_api_Token)],(.sl .str),fun t=>J4 nn t⟩
theorem zkw (nn:Nat):qe 142 (zui nn):=(zdd nn).pure
noncomputable def zbb (nn:Nat) (a0:Int):Option Int:=J (fun(x1:Int×Bool)=>ifB x1.2 (some 2) (J (fun(x3:Bool)=>ifB x3 (some 1) (some 0)) fun x4=>ja (some (decide (48≤x1.1))) fun x5=>ifB x5 (x4 (decide (x1.1≤57))) (x4 false))) fun x2=>J (fun(x6:Int×Bool)=>ifB x6.2 (x2 (x6.1,x6.2)) (J (fun(x8:Int×Bool)=>ifB x8.2 (x2 (x8.1,x8.2)) (ja (some (decide (x8.1=95))) fun x10=>x2 (x8.1,x10))) fun x9=>ja (some (decide (65≤x6.1))) fun x11=>ifB x11 (x9 (x6.1,decide (x6.1≤90))) (x9 (x6.1,false)))) fun x7=>ja (some (decide (97≤a0))) fun x12=>ifB x12 (x7 (a0,decide (a0≤122))) (x7 (a0,false))
noncomputable def zxk:=lk (α:=HK) [(12, .meet ⟨[(0, .v (.int .i32)),(3, .v .bool)],[],0⟩),(48, .meet ⟨[(0, .v (.int .i32)),(3, .v .bool)],[],0⟩),(102, .meet ⟨[(18, .v .bool)],[],0⟩),(198, .meet ⟨[(0, .v (.int .i32)),(3, .v .bool)],[],0⟩)]
noncomputable abbrev zy5 (nn:Nat):PF:=⟨[(.int .i32)],(.int .i64),fun t=>zbb nn t⟩
set_option maxRecDepth 100000 in
theorem znq (nn:Nat):qe 206 (zy5 nn):=mk1 Tryz.func206 nn 0 [(0,[5,11,17,20])] [] [] [] itn zxk rn gn tn (by kernel_rfl) fun t=>by kernel_rfl
noncomputable def Yw (nn:Nat) (a0:(List UInt8)):Option Bool:=jt (fun(x1:(List UInt8)×((List UInt8)×Int×Unit)) x2=>ifB (zdr x1.2.1 x1.2.2.1) (ja (zbb nn (z9e x1.2.1 x1.2.2.1)) fun x3=>J (fun(x4:(List UInt8)×Bool×((List UInt8)×Int×Unit))=>ifB x4.2.1 (some false) (x2 (x4.1,x4.2.2))) fun x5=>ja (some (decide (x3=0))) fun x6=>ifB x6 (x5 (x1.1,true,(x1.2.1,zbf x1.2.1 x1.2.2.1,()))) (ja (some (decide (x3=1))) fun x7=>ifB x7 (x5 (x1.1,decide ((jcc x1.2.2.1)=0),(x1.2.1,zbf x1.2.1 x1.2.2.1,()))) (x5 (x1.1,false,(x1.2.1,zbf x1.2.1 x1.2.2.1,()))))) (J (fun(x8:Bool)=>some x8) fun x9=>ja (some (!(x1.1 == []))) fun x10=>ifB x10 (x9 (decide ((x1.1.length:Int)≤32))) (x9 false))) nn (a0,(a0,0,()))
noncomputable def zzj:=lk (α:=HK) [(14, .meet ⟨[(2, .v .bool)],[],0⟩),(26, .meet ⟨[(0, .v .str),(7, .own 0)],[(0, .obj .si)],1⟩),(3382, .meet ⟨[(0, .v .str),(7, .own 0),(23, .v .bool)],[(0, .obj .si)],1⟩)]
noncomputable abbrev zxr (nn:Nat):PF:=⟨[.str], .bool,fun t=>Yw nn t⟩
set_option maxRecDepth 100000 in
theorem zol (nn:Nat):qe 183 (zxr nn):=mk1 Tryz.func183 nn 0 [(0,[15,18,25])] [] [] [] itn zzj rn gn (tc (znq nn) tn) (by kernel_rfl) fun t=>by kernel_rfl
noncomputable def qt (nn:Nat) (a0:(List (List UInt8))) (a1:(List UInt8)):Option Int:=jt (fun(x1:(List (List UInt8))×(List UInt8)×Int×Int) x2=>ifB (decide (x1.2.2.2<x1.2.2.1)) (ja (atL x1.1 x1.2.2.2) fun x3=>ifB (x1.2.1 == x3) (some x1.2.2.2) (ja (some (w64 (x1.2.2.2+1))) fun x4=>x2 (x1.1,x1.2.1,x1.2.2.1,x4))) (some (-1))) nn (a0,a1,(a0.length:Int),0)
noncomputable def Vv:=lk (α:=HK) [(26, .meet ⟨[(0, .v (.sl .str)),(1, .v .str),(7, .v (.int .i64)),(8, .v (.int .i64))],[],0⟩)]
noncomputable abbrev Vw (nn:Nat):PF:=⟨[(.sl .str), .str],(.int .i64),fun t=>qt nn (t.1) (t.2)⟩
set_option maxRecDepth 100000 in
theorem Qs (nn:Nat):qe 207 (Vw nn):=mk1 Tryz.func207 nn 0 [(0,[18])] [] [] [] itn Vv rn gn tn (by kernel_rfl) fun t=>by kernel_rfl
noncomputable def Yz (nn:Nat) (a0:(List (List UInt8))) (a1:(List UInt8)):Option Int:=ja (qt nn a0 a1) fun x1=>some x1
noncomputable def zy6:=lk (α:=HK) []
noncomputable abbrev zxv (nn:Nat):PF:=⟨[(.sl .str), .str],(.int .i64),fun t=>Yz nn (t.1) (t.2)⟩
set_option maxRecDepth 100000 in
theorem zoi (nn:Nat):qe 184 (zxv nn):=mk1 Tryz.func184 nn 0 [] [] [] [] itn zy6 rn gn (tc (Qs nn) tn) (by kernel_rfl) fun t=>by kernel_rfl
noncomputable def zgi (nn:Nat) (a0:jj):Option (Int×Bool×Unit):=J (fun(x1:Unit)=>some (0,false,())) fun x2=>J (fun(x3:Int)=>some (x3,true,())) fun x4=>J (fun(x5:Int)=>ja (some (w64 (x5+1))) fun x7=>x4 x7) fun x6=>J (fun(x8:Int×Int×Bool)=>ifB x8.2.2 (ja (some (w64 (x8.1+1))) fun x10=>x6 x10) (J (fun(x11:Int×Int×Bool)=>ifB x11.2.2 (x6 x11.1) (J (fun(x13:Int×Bool)=>ifB x13.2 (x4 x13.1) (x2 ())) fun x14=>ja (some (decide (x11.2.1=1))) fun x15=>ifB x15 (x14 (x11.1,x15)) (ja (some (decide (x11.2.1=2))) fun x16=>x14 (x11.1,x16)))) fun x12=>ja (some (decide (x8.2.1=5))) fun x17=>ifB x17 (x12 (x8.1,x8.2.1,x17)) (ja (some (decide (x8.2.1=6))) fun x18=>ifB x18 (x12 (x8.1,x8.2.1,x18)) (ja (some (decide (x8.2.1=7))) fun x19=>x12 (x8.1,x8.2.1,x19))))) fun x9=>ja (some (decide (a0.1=3))) fun x20=>ifB x20 (x9 (0,a0.1,x20)) (ja (some (decide (a0.1=4))) fun x21=>x9 (0,a0.1,x21))
noncomputable def jag:=lk (α:=HK) [(29, .meet ⟨[],[],0⟩),(116, .meet ⟨[(4, .v (.int .i64))],[],0⟩),(464, .meet ⟨[(4, .v (.int .i64))],[],0⟩),(14848, .meet ⟨[(4, .v (.int .i64)),(6, .v (.int .i64)),(7, .v .bool)],[],0⟩),(29698, .meet ⟨[(4, .v (.int .i64)),(6, .v (.int .i64)),(10, .v .bool)],[],0⟩),(29699, .meet ⟨[(4, .v (.int .i64)),(14, .v .bool)],[],0⟩)]
noncomputable abbrev ja2 (nn:Nat):PF:=⟨[Y_api_Rx],(.tup (.cons (.int .i64) (.cons .bool .nil))),fun t=>zgi nn t⟩
set_option maxRecDepth 100000 in
theorem z0n (nn:Nat):qe 208 (ja2 nn):=mk1 Tryz.func208 nn 0 [(0,[8,9,11,12,13,15,16,18,20])] [] [] [] itn jag rn gn tn (by kernel_rfl) fun t=>by kernel_rfl
noncomputable def zel (nn:Nat) (a0:(List jj)):Option (Int×Int×Int×Unit):=ifB (decide (512<(a0.length:Int))) (some (0,0,4,())) (jt (fun(x1:Int×Int×(List jj)×Int×Int) x2=>ifB (decide (x1.2.2.2.2<x1.2.2.2.1)) (ja (atL x1.2.2.1 x1.2.2.2.2) fun x3=>ja (zgi nn x3) fun x4=>J (fun(x5:Int×Int×Int×(List jj)×Int×Int×Bool)=>ifB x5.2.2.2.2.2.2 (some (0,0,1,())) (ifB (decide (x5.1<x5.2.2.1)) (some (0,0,3,())) (ja (some (w64 (x5.1+(w64 (1-x5.2.2.1))))) fun x7=>ja (some (max x5.2.1 x7)) fun x8=>ja (some (w64 (x5.2.2.2.2.2.1+1))) fun x9=>x2 (x7,x8,x5.2.2.2.1,x5.2.2.2.2.1,x9)))) fun x6=>ja (some (!x4.2.1)) fun x10=>ifB x10 (x6 (x1.1,x1.2.1,x4.1,x1.2.2.1,x1.2.2.2.1,x1.2.2.2.2,x10)) (J (fun(x11:Int×Int×Int×(List jj)×Int×Int×Bool)=>x6 (x11.1,x11.2.1,x11.2.2.1,x11.2.2.2.1,x11.2.2.2.2.1,x11.2.2.2.2.2.1,x11.2.2.2.2.2.2)) fun x12=>ja (some (decide (¬ x3.1=1))) fun x13=>ifB x13 (x12 (x1.1,x1.2.1,x4.1,x1.2.2.1,x1.2.2.2.1,x1.2.2.2.2,!(x3.2.1.l == (⟨List.replicate 4 0,List.length_replicate⟩:Arr 4 Int).l))) (x12 (x1.1,x1.2.1,x4.1,x1.2.2.1,x1.2.2.2.1,x1.2.2.2.2,false)))) (some (x1.1,x1.2.1,0,()))) nn (0,0,a0,(a0.length:Int),0))
noncomputable def z3z:=lk (α:=HK) [(122, .meet ⟨[(5, .v (.int .i64)),(6, .v (.int .i64)),(14, .v (.sl Y_api_Rx)),(15, .v (.int .i64)),(16, .v (.int .i64))],[],0⟩),(62668, .meet ⟨[(5, .v (.int .i64)),(6, .v (.int .i64)),(9, .v (.int .i64)),(14, .v (.sl Y_api_Rx)),(15, .v (.int .i64)),(16, .v (.int .i64)),(25, .v .bool)],[],0⟩),(501347, .meet ⟨[(5, .v (.int .i64)),(6, .v (.int .i64)),(9, .v (.int .i64)),(14, .v (.sl Y_api_Rx)),(15, .v (.int .i64)),(16, .v (.int .i64)),(25, .v .bool)],[],0⟩)]
noncomputable abbrev z4g (nn:Nat):PF:=⟨[(.sl Y_api_Rx)],(.tup (.cons (.int .i64) (.cons (.int .i64) (.cons (.int .i64) .nil)))),fun t=>zel nn t⟩
set_option maxRecDepth 100000 in
theorem ztn (nn:Nat):qe 185 (z4g nn):=mk1 Tryz.func185 nn 0 [(0,[27,30,44,47,48])] [] [] [] itn z3z rn gn (tc (z0n nn) tn) (by kernel_rfl) fun t=>by kernel_rfl
noncomputable def Vz (nn:Nat) (a0:(List jj)):Option Int:=ja (zel nn a0) fun x1=>J (fun(x2:Int×Bool)=>ifB x2.2 (some 3) (some x2.1)) fun x3=>ja (some (decide (x1.2.2.1=0))) fun x4=>ifB x4 (x3 (x1.2.2.1,decide (¬ x1.1=1))) (x3 (x1.2.2.1,false))
noncomputable def z1n:=lk (α:=HK) [(28, .meet ⟨[(5, .v (.int .i64)),(17, .v .bool)],[],0⟩)]
noncomputable abbrev z02 (nn:Nat):PF:=⟨[(.sl Y_api_Rx)],(.int .i64),fun t=>Vz nn t⟩
set_option maxRecDepth 100000 in
theorem zbg (nn:Nat):qe 144 (z02 nn):=mk1 Tryz.func144 nn 0 [(0,[13])] [] [] [] itn z1n rn gn (tc (ztn nn) tn) (by kernel_rfl) fun t=>by kernel_rfl
noncomputable def y4 (nn:Nat) (a0:(Option ju)) (a1:jf):Option Int:=ja (a0) fun x1=>J (fun(x2:(Option ju)×Int×jf)=>J (fun(x4:(Option ju)×Bool×jf)=>ifB x4.2.1 (some 11) (J (fun(x6:Bool×jf)=>ifB x6.1 (some 12) (J (fun(x8:Bool)=>ifB x8 (some 2) (some 0)) fun x9=>ja (some (decide (x6.2.2.2.1<0))) fun x10=>ifB x10 (x9 true) (ifB (decide (2<x6.2.2.2.1)) (x9 true) (ifB (decide (x6.2.2.2.2.1<0)) (x9 true) (x9 (decide (8<x6.2.2.2.2.1))))))) fun x7=>ja (some (!x4.2.2.1)) fun x11=>ifB x11 (ja (x4.1) fun x12=>ja (atL x12.1.1 x4.2.2.2.1) fun x13=>x7 (decide (¬ x13.2.2.1=0),x4.2.2)) (x7 (false,x4.2.2)))) fun x5=>ja (some (decide (x2.2.2.2.1<0))) fun x14=>ifB x14 (x5 (x2.1,true,x2.2.2)) (x5 (x2.1,decide (x2.2.1≤x2.2.2.2.1),x2.2.2))) fun x3=>ifB a1.1 (ja (a0) fun x15=>x3 (a0,(x15.1.2.1.length:Int),a1)) (x3 (a0,(x1.1.1.length:Int),a1))
noncomputable def zdp:=lk (α:=HK) [(7, .meet ⟨[(0, .v (.ref jx)),(3, .pt 0 0),(5, .v (.int .i64))],[(0, .box 54 [.v Y_api_Item])],1⟩),(120, .meet ⟨[(0, .v (.ref jx)),(3, .pt 0 0),(20, .v .bool)],[(0, .box 54 [.v Y_api_Item])],1⟩),(486, .meet ⟨[(3, .pt 0 0),(30, .v .bool)],[(0, .box 54 [.v Y_api_Item])],1⟩),(1950, .meet ⟨[(47, .v .bool)],[],0⟩)]
noncomputable abbrev zdw (nn:Nat):PF:=⟨[(.ref jx),Y_api_Item],(.int .i64),fun t=>y4 nn (t.1) (t.2)⟩
set_option maxRecDepth 100000 in
theorem zb0 (nn:Nat):qe 145 (zdw nn):=mk1 Tryz.func145 nn 0 [(0,[23,33,50])] [] [] [] itn zdp rn gn tn (by kernel_rfl) fun t=>by kernel_rfl
noncomputable def zbs (nn:Nat) (a0:jb) (a1:Int):Option (List Int):=jt (fun(x1:Int×(List jh)×Int×Int×(List Int)) x2=>ifB (decide (x1.2.2.2.1<x1.2.2.1)) (J (fun(x3:Int×(List jh)×Int×Int×(List Int))=>ja (some (w64 (x3.2.2.2.1+1))) fun x5=>x2 (x3.1,x3.2.1,x3.2.2.1,x5,x3.2.2.2.2)) fun x4=>ja (atL x1.2.1 x1.2.2.2.1) fun x6=>ifB (decide (x6.1=x1.1)) (ja (apO 8 x1.2.2.2.2 [x1.2.2.2.1]) fun x7=>x4 (x1.1,x1.2.1,x1.2.2.1,x1.2.2.2.1,x7)) (x4 (x1.1,x1.2.1,x1.2.2.1,x1.2.2.2.1,x1.2.2.2.2))) (some x1.2.2.2.2)) nn (a1,a0.2.2.1,(a0.2.2.1.length:Int),0,[])
noncomputable def z3c:=lk (α:=HK) [(58, .meet ⟨[(1, .v (.int .i64)),(5, .own 0),(9, .v (.sl Y_api_Prod)),(10, .v (.int .i64)),(11, .v (.int .i64))],[(0, .row 3 (.int .i64))],1⟩),(934, .meet ⟨[(1, .v (.int .i64)),(5, .own 0),(9, .v (.sl Y_api_Prod)),(10, .v (.int .i64)),(11, .v (.int .i64))],[(0, .row 3 (.int .i64))],1⟩)]
noncomputable abbrev z4y (nn:Nat):FF:=⟨[Y_api_Grammar,(.int .i64)],3,(.int .i64),fun t=>zbs nn (t.1) (t.2)⟩
set_option maxRecDepth 100000 in
theorem zst (nn:Nat):FFOk 146 (z4y nn):=mk2 Tryz.func146 nn 0 [(0,[24])] [(0,[(22, .told (.int .i64))])] [] [] itn z3c rn gn tn (by kernel_rfl) fun t=>by kernel_rfl
noncomputable abbrev z4z (nn:Nat):PF:=⟨[Y_api_Grammar,(.int .i64)],(.sl (.int .i64)),fun t=>zbs nn (t.1) (t.2)⟩
theorem zsx (nn:Nat):qe 146 (z4z nn):=(zst nn).pure
noncomputable def Q5 (nn:Nat) (a0:jb):Option jk:=J (fun(x1:jk×ju)=>some x1.2.2.1) fun x2=>J (fun(x3:Bool×jk×ju)=>ifB x3.1 (x2 (x3.2.1,x3.2.2)) (J (fun(x5:Bool×jk×ju)=>ifB x5.1 (x2 (x5.2.1,x5.2.2)) (J (fun(x7:Bool×jk×ju)=>ifB x7.1 (x2 (x7.2.1,x7.2.2)) (J (fun(x9:Bool×jk×ju)=>ifB x9.1 (x2 (x9.2.1,x9.2.2)) (J (fun(x11:Bool×jk×ju)=>ifB x11.1 (x2 (x11.2.1,x11.2.2)) (x2 (x11.2.1,x11.2.2))) fun x12=>J (fun(x13:Bool×ju)=>ifB x13.1 (x12 (true,x9.2.1,(x13.2.1,(11,(-1),0,()),()))) (jt (fun(x15:Int×Int×ju) x16=>ifB (decide (x15.2.1<x15.1)) (ja (zbs nn x15.2.2.1 x15.2.1) fun x17=>ifB (decide ((x17.length:Int)=0)) (x12 (true,x9.2.1,(x15.2.2.1,(5,x15.2.1,0,()),()))) (ja (some (w64 (x15.2.1+1))) fun x18=>x16 (x15.1,x18,x15.2.2))) (x12 (false,x9.2.1,x15.2.2))) nn ((x13.2.1.2.1.length:Int),0,x13.2))) fun x14=>ja (some (decide (x9.2.2.1.2.2.2.1<0))) fun x19=>ifB x19 (x14 (true,x9.2.2)) (x14 (decide ((x9.2.2.1.2.1.length:Int)≤x9.2.2.1.2.2.2.1),x9.2.2)))) fun x10=>J (fun(x20:Bool×ju)=>x10 (x20.1,x7.2.1,x20.2)) fun x21=>jt (fun(x22:(List jh)×Int×Int×ju) x23=>ifB (decide (x22.2.2.1<x22.2.1)) (ja (atL x22.1 x22.2.2.1) fun x24=>J (fun(x25:Int×(List jh)×Int×Int×Bool×ju×jh)=>ifB x25.2.2.2.2.1 (x10 (true,x7.2.1,(x25.2.2.2.2.2.1.1,(11,x25.1,0,()),()))) (ifB (decide (16<(x25.2.2.2.2.2.2.2.1.length:Int))) (x10 (true,x7.2.1,(x25.2.2.2.2.2.1.1,(4,x25.1,0,()),()))) (jt (fun(x27:Int×(List jh)×Int×Int×(List jf)×Int×Int×ju) x28=>ifB (decide (x27.2.2.2.2.2.2.1<x27.2.2.2.2.2.1)) (ja (atL x27.2.2.2.2.1 x27.2.2.2.2.2.2.1) fun x29=>ja (y4 nn (some x27.2.2.2.2.2.2.2) x29) fun x30=>ifB (decide (¬ x30=0)) (x21 (true,(x27.2.2.2.2.2.2.2.1,(x30,x27.1,w64 (x27.2.2.2.2.2.2.1+1),()),()))) (ja (some (w64 (x27.2.2.2.2.2.2.1+1))) fun x31=>x28 (x27.1,x27.2.1,x27.2.2.1,x27.2.2.2.1,x27.2.2.2.2.1,x27.2.2.2.2.2.1,x31,x27.2.2.2.2.2.2.2))) (ja (some (w64 (x27.2.2.2.1+1))) fun x32=>x23 (x27.2.1,x27.2.2.1,x32,x27.2.2.2.2.2.2.2))) nn (x25.1,x25.2.1,x25.2.2.1,x25.2.2.2.1,x25.2.2.2.2.2.2.2.1,(x25.2.2.2.2.2.2.2.1.length:Int),0,x25.2.2.2.2.2.1)))) fun x26=>ja (some (decide (x24.1<0))) fun x33=>ifB x33 (x26 (x22.2.2.1,x22.1,x22.2.1,x22.2.2.1,true,x22.2.2.2,x24)) (x26 (x22.2.2.1,x22.1,x22.2.1,x22.2.2.1,decide ((x22.2.2.2.1.2.1.length:Int)≤x24.1),x22.2.2.2,x24))) (x21 (false,x22.2.2.2))) nn (x7.2.2.1.2.2.1,(x7.2.2.1.2.2.1.length:Int),0,x7.2.2))) fun x8=>ja (zh6 nn x5.2.2.1.1) fun x34=>jt (fun(x35:(List (List UInt8))×Int×Int×ju×(List (List UInt8))) x36=>ifB (decide (x35.2.2.1<x35.2.1)) (ja (atL x35.1 x35.2.2.1) fun x37=>J (fun(x38:(List UInt8)×(List (List UInt8))×Int×Int×Bool×ju×(List (List UInt8)))=>ifB x38.2.2.2.2.1 (x8 (true,x5.2.1,x38.2.2.2.2.2.1)) (ja (apO 16 x38.2.2.2.2.2.2 [x38.1]) fun x40=>ja (some (w64 (x38.2.2.2.1+1))) fun x41=>x36 (x38.2.1,x38.2.2.1,x41,x38.2.2.2.2.2.1,x40))) fun x39=>ja (Yw nn x37) fun x42=>ifB (!x42) (x39 (x37,x35.1,x35.2.1,x35.2.2.1,true,(x35.2.2.2.1.1,(7,x35.2.2.1,0,()),()),x35.2.2.2.2)) (ja (Yz nn x35.2.2.2.2 x37) fun x43=>ifB (decide (0≤x43)) (x39 (x37,x35.1,x35.2.1,x35.2.2.1,true,(x35.2.2.2.1.1,(8,x35.2.2.1,0,()),()),x35.2.2.2.2)) (x39 (x37,x35.1,x35.2.1,x35.2.2.1,false,x35.2.2.2.1,x35.2.2.2.2)))) (x8 (false,x5.2.1,x35.2.2.2.1))) nn (x5.2.2.1.2.1,(x5.2.2.1.2.1.length:Int),0,x5.2.2,x34))) fun x6=>ja (J4 nn x3.2.2.1.1) fun x44=>jt (fun(x45:(List (List UInt8))×(List qh)×Int×Int×ju) x46=>ifB (decide (x45.2.2.2.1<x45.2.2.1)) (ja (atL x45.2.1 x45.2.2.2.1) fun x47=>J (fun(x48:(List (List UInt8))×Int×(List qh)×Int×Int×Bool×ju×qh)=>ifB x48.2.2.2.2.2.1 (x6 (true,x3.2.1,x48.2.2.2.2.2.2.1)) (ja (Vz nn x48.2.2.2.2.2.2.2.2.1) fun x50=>ifB (decide (¬ x50=0)) (x6 (true,x3.2.1,(x48.2.2.2.2.2.2.1.1,(9,x48.2.1,x50,()),()))) (J (fun(x51:(List (List UInt8))×Int×(List qh)×Int×Int×Bool×ju)=>ifB x51.2.2.2.2.2.1 (x6 (true,x3.2.1,(x51.2.2.2.2.2.2.1,(1,x51.2.1,0,()),()))) (ja (some (w64 (x51.2.2.2.2.1+1))) fun x53=>x46 (x51.1,x51.2.2.1,x51.2.2.2.1,x53,x51.2.2.2.2.2.2))) fun x52=>ja (some (decide (x48.2.2.2.2.2.2.2.2.2.1<0))) fun x54=>ifB x54 (x52 (x48.1,x48.2.1,x48.2.2.1,x48.2.2.2.1,x48.2.2.2.2.1,true,x48.2.2.2.2.2.2.1)) (x52 (x48.1,x48.2.1,x48.2.2.1,x48.2.2.2.1,x48.2.2.2.2.1,decide (3<x48.2.2.2.2.2.2.2.2.2.1),x48.2.2.2.2.2.2.1))))) fun x49=>ja (zb3 x45.1 none (some x45.2.2.2.1)) fun x55=>ja (Yw nn x47.1) fun x56=>ifB (!x56) (x49 (x45.1,x45.2.2.2.1,x45.2.1,x45.2.2.1,x45.2.2.2.1,true,(x45.2.2.2.2.1,(7,x45.2.2.2.1,0,()),()),x47)) (ja (Yz nn x55 x47.1) fun x57=>ifB (decide (0≤x57)) (x49 (x45.1,x45.2.2.2.1,x45.2.1,x45.2.2.1,x45.2.2.2.1,true,(x45.2.2.2.2.1,(8,x45.2.2.2.1,0,()),()),x47)) (x49 (x45.1,x45.2.2.2.1,x45.2.1,x45.2.2.1,x45.2.2.2.1,false,x45.2.2.2.2,x47)))) (x6 (false,x3.2.1,x45.2.2.2.2))) nn (x44,x3.2.2.1.1,(x3.2.2.1.1.length:Int),0,x3.2.2))) fun x4=>jt (fun(x58:(List Int)×Int×Int×ju) x59=>ifB (decide (x58.2.2.1<x58.2.1)) (ja (atL x58.1 x58.2.2.1) fun x60=>ifB (decide (0<x60)) (x4 (true,(0,0,0,()),(x58.2.2.2.1,(4,x58.2.2.1,0,()),()))) (ja (some (w64 (x58.2.2.1+1))) fun x61=>x59 (x58.1,x58.2.1,x61,x58.2.2.2))) (jt (fun(x62:(List (Arr 3 Int))×Int×Int×ju) x63=>ifB (decide (x62.2.2.1<x62.2.1)) (ja (atL x62.1 x62.2.2.1) fun x64=>J (fun(x65:Int×(List (Arr 3 Int))×Int×Int×Bool×ju)=>ifB x65.2.2.2.2.1 (x4 (true,(0,0,0,()),(x65.2.2.2.2.2.1,(2,x65.1,0,()),()))) (ja (some (w64 (x65.2.2.2.1+1))) fun x67=>x63 (x65.2.1,x65.2.2.1,x67,x65.2.2.2.2.2))) fun x66=>ja (qz 3 1) fun x68=>ja (atL x64.l x68) fun x69=>ja (qz 3 0) fun x70=>ja (atL x64.l x70) fun x71=>ja (some (decide (x69<x71))) fun x72=>ifB x72 (x66 (x62.2.2.1,x62.1,x62.2.1,x62.2.2.1,true,x62.2.2.2)) (ja (qz 3 1) fun x73=>ja (atL x64.l x73) fun x74=>ja (qz 3 2) fun x75=>ja (atL x64.l x75) fun x76=>x66 (x62.2.2.1,x62.1,x62.2.1,x62.2.2.1,decide (x76<x74),x62.2.2.2))) (x4 (false,(0,0,0,()),x62.2.2.2))) nn ([(⟨[1,x58.2.2.2.1.2.2.2.2.1,4096],rfl⟩:Arr 3 Int),(⟨[0,x58.2.2.2.1.2.2.2.2.2.1,65536],rfl⟩:Arr 3 Int),(⟨[1,x58.2.2.2.1.2.2.2.2.2.2.1,65536],rfl⟩:Arr 3 Int),(⟨[1,x58.2.2.2.1.2.2.2.2.2.2.2.1,1048576],rfl⟩:Arr 3 Int)],([(⟨[1,x58.2.2.2.1.2.2.2.2.1,4096],rfl⟩:Arr 3 Int),(⟨[0,x58.2.2.2.1.2.2.2.2.2.1,65536],rfl⟩:Arr 3 Int),(⟨[1,x58.2.2.2.1.2.2.2.2.2.2.1,65536],rfl⟩:Arr 3 Int),(⟨[1,x58.2.2.2.1.2.2.2.2.2.2.2.1,1048576],rfl⟩:Arr 3 Int)].length:Int),0,x58.2.2.2))) nn ([w64 ((a0.1.length:Int)-64),w64 ((a0.2.1.length:Int)-64),w64 ((a0.2.2.1.length:Int)-256)],([w64 ((a0.1.length:Int)-64),w64 ((a0.2.1.length:Int)-64),w64 ((a0.2.2.1.length:Int)-256)].length:Int),0,(a0,(0,0,0,()),()))
noncomputable def ztc:=lk (α:=HK) [(29, .meet ⟨[(2, .pt 0 0),(3, .pt 1 0)],[(0, .box 36 [.v jl]),(1, .box 134 [.v jx])],2⟩),(58, .unroll 24),(7474, .meet ⟨[(2, .pt 0 0),(3, .pt 1 0),(24, .own 2),(25, .ci .i64 (5)),(26, .ci .i64 (0)),(32, .v .bool)],[(0, .box 36 [.v jl]),(1, .box 134 [.v jx]),(2, .rowx 136 1 [.agg [.fn 94 [.pt 1 0] []], .agg [.fn 95 [.pt 1 0] []], .agg [.fn 96 [.pt 1 0] []], .agg [.fn 97 [.pt 1 0] []], .agg [.fn 98 [.pt 1 0] []]])],3⟩),(15026, .meet ⟨[(2, .pt 0 0),(3, .pt 1 0),(24, .own 2),(25, .ci .i64 (5)),(26, .ci .i64 (1)),(32, .v .bool)],[(0, .box 36 [.v jl]),(1, .box 134 [.v jx]),(2, .rowx 136 1 [.agg [.fn 94 [.pt 1 0] []], .agg [.fn 95 [.pt 1 0] []], .agg [.fn 96 [.pt 1 0] []], .agg [.fn 97 [.pt 1 0] []], .agg [.fn 98 [.pt 1 0] []]])],3⟩),(30130, .meet ⟨[(2, .pt 0 0),(3, .pt 1 0),(24, .own 2),(25, .ci .i64 (5)),(26, .ci .i64 (2)),(32, .v .bool)],[(0, .box 36 [.v jl]),(1, .box 134 [.v jx]),(2, .rowx 136 1 [.agg [.fn 94 [.pt 1 0] []], .agg [.fn 95 [.pt 1 0] []], .agg [.fn 96 [.pt 1 0] []], .agg [.fn 97 [.pt 1 0] []], .agg [.fn 98 [.pt 1 0] []]])],3⟩),(60338, .meet ⟨[(2, .pt 0 0),(3, .pt 1 0),(24, .own 2),(25, .ci .i64 (5)),(26, .ci .i64 (3)),(32, .v .bool)],[(0, .box 36 [.v jl]),(1, .box 134 [.v jx]),(2, .rowx 136 1 [.agg [.fn 94 [.pt 1 0] []], .agg [.fn 95 [.pt 1 0] []], .agg [.fn 96 [.pt 1 0] []], .agg [.fn 97 [.pt 1 0] []], .agg [.fn 98 [.pt 1 0] []]])],3⟩),(120754, .meet ⟨[(2, .pt 0 0),(3, .pt 1 0),(24, .own 2),(25, .ci .i64 (5)),(26, .ci .i64 (4)),(32, .v .bool)],[(0, .box 36 [.v jl]),(1, .box 134 [.v jx]),(2, .rowx 136 1 [.agg [.fn 94 [.pt 1 0] []], .agg [.fn 95 [.pt 1 0] []], .agg [.fn 96 [.pt 1 0] []], .agg [.fn 97 [.pt 1 0] []], .agg [.fn 98 [.pt 1 0] []]])],3⟩)]
noncomputable def zle:=lk (α:=HK) [(26, .meet ⟨[(0, .pt 0 0),(28, .v (.sl (.int .i64))),(29, .v (.int .i64)),(30, .v (.int .i64))],[(0, .box 134 [.v jx])],1⟩),(58, .meet ⟨[(0, .pt 0 0),(65, .v (.sl (.arr 3 (.int .i64)))),(66, .v (.int .i64)),(67, .v (.int .i64))],[(0, .box 134 [.v jx])],1⟩),(7474, .meet ⟨[(0, .pt 0 0),(5, .v (.int .i64)),(65, .v (.sl (.arr 3 (.int .i64)))),(66, .v (.int .i64)),(67, .v (.int .i64)),(83, .v .bool)],[(0, .box 134 [.v jx])],1⟩)]
noncomputable def zlf:=lk (α:=HK) []
noncomputable def zmg:=lk (α:=HK) []
noncomputable def zlp:=lk (α:=HK) [(58, .meet ⟨[(0, .pt 0 0),(3, .v (.sl .str)),(17, .v (.sl Y_api_Token)),(18, .v (.int .i64)),(19, .v (.int .i64))],[(0, .box 134 [.v jx])],1⟩),(14948, .meet ⟨[(0, .pt 0 0),(3, .v (.sl .str)),(4, .v (.int .i64)),(5, .pt 1 0),(17, .v (.sl Y_api_Token)),(18, .v (.int .i64)),(19, .v (.int .i64)),(31, .v .bool)],[(0, .box 134 [.v jx]),(1, .box 48 [.v Y_api_Token])],2⟩),(29902, .meet ⟨[(0, .pt 0 0),(3, .v (.sl .str)),(4, .v (.int .i64)),(17, .v (.sl Y_api_Token)),(18, .v (.int .i64)),(19, .v (.int .i64)),(48, .v .bool)],[(0, .box 134 [.v jx])],1⟩)]
noncomputable def zli:=lk (α:=HK) []
noncomputable def zmi:=lk (α:=HK) []
noncomputable def zlv:=lk (α:=HK) []
noncomputable def zk0:=lk (α:=HK) []
noncomputable def zl6:=lk (α:=HK) []
noncomputable def zj6:=lk (α:=HK) [(58, .meet ⟨[(0, .pt 0 0),(3, .own 1),(16, .v (.sl .str)),(17, .v (.int .i64)),(18, .v (.int .i64))],[(0, .box 134 [.v jx]),(1, .row 9 .str)],2⟩),(14948, .meet ⟨[(0, .pt 0 0),(3, .own 1),(5, .v .str),(16, .v (.sl .str)),(17, .v (.int .i64)),(18, .v (.int .i64)),(27, .v .bool)],[(0, .box 134 [.v jx]),(1, .row 9 .str)],2⟩)]
noncomputable def zif:=lk (α:=HK) []
noncomputable def zic:=lk (α:=HK) []
noncomputable def zi7:=lk (α:=HK) []
noncomputable def zim:=lk (α:=HK) [(109, .meet ⟨[(3, .v .bool)],[(0, .box 134 [.v jx])],1⟩),(218, .meet ⟨[(0, .pt 0 0),(3, .cb false),(13, .v (.sl Y_api_Prod)),(14, .v (.int .i64)),(15, .v (.int .i64))],[(0, .box 134 [.v jx])],1⟩),(111816, .meet ⟨[(0, .pt 0 0),(3, .cb false),(4, .v (.int .i64)),(5, .pt 1 0),(13, .v (.sl Y_api_Prod)),(14, .v (.int .i64)),(15, .v (.int .i64)),(20, .v .bool)],[(0, .box 134 [.v jx]),(1, .box 66 [.v Y_api_Prod])],2⟩),(111822, .meet ⟨[(0, .pt 0 0),(3, .cb false),(4, .v (.int .i64)),(13, .v (.sl Y_api_Prod)),(14, .v (.int .i64)),(15, .v (.int .i64)),(47, .v (.sl Y_api_Item)),(48, .v (.int .i64)),(49, .v (.int .i64))],[(0, .box 134 [.v jx])],1⟩)]
noncomputable def zin:=lk (α:=HK) []
noncomputable def zjv:=lk (α:=HK) []
noncomputable def zj3:=lk (α:=HK) []
noncomputable def zi0:=lk (α:=HK) [(12, .meet ⟨[(0, .pt 0 0),(23, .v .bool)],[(0, .box 134 [.v jx])],1⟩),(58, .meet ⟨[(0, .pt 0 0),(31, .v (.int .i64)),(32, .v (.int .i64))],[(0, .box 134 [.v jx])],1⟩)]
noncomputable def zjg:=lk (α:=HK) []
noncomputable def zid:=lk (α:=HK) []
noncomputable abbrev zud (nn:Nat):PF:=⟨[Y_api_Grammar],jl,fun t=>Q5 nn t⟩
set_option maxRecDepth 100000 in
theorem zc9 (nn:Nat):qe 57 (zud nn):=mk1 Tryz.func57 nn 9 [(1,[40,76,87]),(4,[43,52]),(10,[32]),(14,[23,65,66]),(18,[9,46])] [(0,[(24, .ownx)]),(1,[(28, .told (.int .i64)),(65, .told (.arr 3 (.int .i64)))]),(10,[(30, .told .str)])] [] [10000069] (itc 3220094 Tryz.func94 zle 1 [] (itc 10003220141 Tryz.func141 zlf 2 [] (itc 10007060141 Tryz.func141 zmg 3 [] (itc 3220095 Tryz.func95 zlp 4 [] (itc 40003270143 Tryz.func143 zli 5 [] (itc 50001300141 Tryz.func141 zmi 6 [] (itc 50002580141 Tryz.func141 zlv 7 [] (itc 40005790141 Tryz.func141 zk0 8 [] (itc 40007060141 Tryz.func141 zl6 9 [] (itc 3220096 Tryz.func96 zj6 10 [] (itc 100003240143 Tryz.func143 zif 11 [] (itc 110001300141 Tryz.func141 zic 12 [] (itc 110002580141 Tryz.func141 zi7 13 [] (itc 3220097 Tryz.func97 zim 14 [] (itc 140003860141 Tryz.func141 zin 15 [] (itc 140005140141 Tryz.func141 zjv 16 [] (itc 140009010141 Tryz.func141 zj3 17 [] (itc 3220098 Tryz.func98 zi0 18 [] (itc 180001290141 Tryz.func141 zjg 19 [] (itc 180004500141 Tryz.func141 zid 20 [] itn (by kernel_rfl)) (by kernel_rfl)) (by kernel_rfl)) (by kernel_rfl)) (by kernel_rfl)) (by kernel_rfl)) (by kernel_rfl)) (by kernel_rfl)) (by kernel_rfl)) (by kernel_rfl)) (by kernel_rfl)) (by kernel_rfl)) (by kernel_rfl)) (by kernel_rfl)) (by kernel_rfl)) (by kernel_rfl)) (by kernel_rfl)) (by kernel_rfl)) (by kernel_rfl)) (by kernel_rfl)) ztc rn (gc (zdd nn) gn) (tc (zkw nn) (tc (zbg nn) (tc (zb0 nn) (tc (zsx nn) (tc (zol nn) (tc (zoi nn) tn)))))) (by kernel_rfl) fun t=>by kernel_rfl
noncomputable def qm (nn:Nat) (a0:jb):Option Bool:=ja (Q5 nn a0) fun x1=>some (decide (x1.1=0))
noncomputable def zuw:=lk (α:=HK) []
noncomputable abbrev zsv (nn:Nat):PF:=⟨[Y_api_Grammar], .bool,fun t=>qm nn t⟩
set_option maxRecDepth 100000 in
theorem vu (nn:Nat):qe 72 (zsv nn):=mk1 Tryz.func72 nn 0 [] [] [] [] itn zuw rn gn (tc (zc9 nn) tn) (by kernel_rfl) fun t=>by kernel_rfl
noncomputable def Vl (nn:Nat) (a0:jf) (a1:(List Bool)):Option Bool:=J (fun(x1:Bool)=>some x1) fun x2=>ifB a0.1 (ja (atL a1 a0.2.1) fun x3=>x2 x3) (x2 false)
noncomputable def zp0:=lk (α:=HK) [(6, .meet ⟨[(4, .v .bool)],[],0⟩)]
noncomputable abbrev zpn (nn:Nat):PF:=⟨[Y_api_Item,(.sl .bool)], .bool,fun t=>Vl nn (t.1) (t.2)⟩
set_option maxRecDepth 100000 in
theorem zg3 (nn:Nat):qe 198 (zpn nn):=mk1 Tryz.func198 nn 0 [] [] [] [] itn zp0 rn gn tn (by kernel_rfl) fun t=>by kernel_rfl
noncomputable def q5 (nn:Nat) (a0:jb):Option (List Bool):=J (fun(x1:(List Bool))=>some x1) fun x2=>ja (qm nn a0) fun x3=>ifB (!x3) (x2 []) (ja (some (a0.2.1.length:Int)) fun x4=>ja (mkO 1 x4) fun x5=>jt (fun(x6:(List jh)×Bool×(List Bool)) x7=>ifB x6.2.1 (jt (fun(x8:(List jh)×Bool×(List jh)×Int×Int×(List Bool)) x9=>ifB (decide (x8.2.2.2.2.1<x8.2.2.2.1)) (ja (atL x8.2.2.1 x8.2.2.2.2.1) fun x10=>J (fun(x11:(List jh)×Bool×(List jh)×Int×Int×(List Bool))=>ja (some (w64 (x11.2.2.2.2.1+1))) fun x13=>x9 (x11.1,x11.2.1,x11.2.2.1,x11.2.2.2.1,x13,x11.2.2.2.2.2)) fun x12=>ja (qz x8.2.2.2.2.2.length x10.1) fun x14=>ja (atL x8.2.2.2.2.2 x14) fun x15=>ifB x15 (x12 (x8.1,x8.2.1,x8.2.2.1,x8.2.2.2.1,x8.2.2.2.2.1,x8.2.2.2.2.2)) (jt (fun(x16:(List jf)×Int×Int×(List Bool)×jh) x17=>ifB (decide (x16.2.2.1<x16.2.1)) (ja (atL x16.1 x16.2.2.1) fun x18=>ja (Vl nn x18 x16.2.2.2.1) fun x19=>ifB (!x19) (x12 (x8.1,x8.2.1,x8.2.2.1,x8.2.2.2.1,x8.2.2.2.2.1,x16.2.2.2.1)) (ja (some (w64 (x16.2.2.1+1))) fun x20=>x17 (x16.1,x16.2.1,x20,x16.2.2.2.1,x16.2.2.2.2))) (ja (qz x16.2.2.2.1.length x16.2.2.2.2.1) fun x21=>ja (Zg x16.2.2.2.1 x21 true) fun x22=>x12 (x8.1,true,x8.2.2.1,x8.2.2.2.1,x8.2.2.2.2.1,x22))) nn (x10.2.1,(x10.2.1.length:Int),0,x8.2.2.2.2.2,x10))) (x7 (x8.1,x8.2.1,x8.2.2.2.2.2))) nn (x6.1,false,x6.1,(x6.1.length:Int),0,x6.2.2)) (x2 x6.2.2)) nn (a0.2.2.1,true,(List.replicate x5 false)))
noncomputable def zt3:=lk (α:=HK) [(6, .meet ⟨[(2, .own 0)],[(0, .row 4 .bool)],1⟩)]
noncomputable def zl7:=lk (α:=HK) []
noncomputable def zlo:=lk (α:=HK) [(6, .meet ⟨[(0, .v (.sl Y_api_Prod)),(1, .fn 148 [] [.pt 0 0, .pt 2 0]),(4, .v .bool)],[(0, .box 42 [.own 1]),(1, .row 4 .bool),(2, .box 142 [.fn 198 [] []])],3⟩),(406, .meet ⟨[(0, .v (.sl Y_api_Prod)),(1, .fn 148 [] [.pt 0 0, .pt 2 0]),(4, .v .bool),(8, .v (.sl Y_api_Prod)),(9, .v (.int .i64)),(10, .v (.int .i64))],[(0, .box 42 [.own 1]),(1, .row 4 .bool),(2, .box 142 [.fn 198 [] []])],3⟩),(26009, .meet ⟨[(0, .v (.sl Y_api_Prod)),(1, .fn 148 [] [.pt 0 0, .pt 2 0]),(4, .v .bool),(8, .v (.sl Y_api_Prod)),(9, .v (.int .i64)),(10, .v (.int .i64))],[(0, .box 42 [.own 1]),(1, .row 4 .bool),(2, .box 142 [.fn 198 [] []])],3⟩)]
noncomputable def zlg:=lk (α:=HK) [(58, .meet ⟨[(1, .pt 0 0),(2, .pt 2 0),(3, .pt 3 0),(13, .v (.sl Y_api_Item)),(14, .v (.int .i64)),(15, .v (.int .i64))],[(0, .box 42 [.own 1]),(1, .row 4 .bool),(2, .box 142 [.fn 198 [] []]),(3, .box 66 [.v Y_api_Prod])],4⟩)]
noncomputable abbrev ztd (nn:Nat):FF:=⟨[Y_api_Grammar],4, .bool,fun t=>q5 nn t⟩
set_option maxRecDepth 100000 in
theorem zl5 (nn:Nat):FFOk 167 (ztd nn):=mk2 Tryz.func167 nn 9 [(1,[11]),(2,[20]),(3,[24])] [] [] [] (itc 650102 Tryz.func102 zl7 1 [] (itc 10002590100 Tryz.func100 zlo 2 [] (itc 20003860148 Tryz.func148 zlg 3 [] itn (by kernel_rfl)) (by kernel_rfl)) (by kernel_rfl)) zt3 rn gn (tc (vu nn) (tc (zg3 nn) tn)) (by kernel_rfl) fun t=>by kernel_rfl
noncomputable abbrev zt6 (nn:Nat):PF:=⟨[Y_api_Grammar],(.sl .bool),fun t=>q5 nn t⟩
theorem Zh (nn:Nat):qe 167 (zt6 nn):=(zl5 nn).pure
noncomputable def yp (nn:Nat) (a0:(List Int)) (a1:(List Int)):Option (List Int):=jt (fun(x1:(List Int)×(List Int)×(List Int)) x2=>J (fun(x3:(List Int)×(List Int)×Bool×(List Int))=>ifB x3.2.2.1 (J (fun(x5:(List Int)×(List Int)×(List Int))=>x2 (x5.1,x5.2.1,x5.2.2)) fun x6=>J (fun(x7:(List Int)×(List Int)×Bool×(List Int))=>ifB x7.2.2.1 (ja (atL x7.1 0) fun x9=>ja (apO 8 x7.2.2.2 [x9]) fun x10=>ja (zb3 x7.1 (some 1) none) fun x11=>x6 (x11,x7.2.1,x10)) (J (fun(x12:(List Int)×(List Int)×Bool×(List Int))=>ifB x12.2.2.1 (ja (atL x12.2.1 0) fun x14=>ja (apO 8 x12.2.2.2 [x14]) fun x15=>ja (zb3 x12.2.1 (some 1) none) fun x16=>x6 (x12.1,x16,x15)) (ja (atL x12.1 0) fun x17=>ja (apO 8 x12.2.2.2 [x17]) fun x18=>ja (zb3 x12.1 (some 1) none) fun x19=>ja (zb3 x12.2.1 (some 1) none) fun x20=>x6 (x19,x20,x18))) fun x13=>ja (some (decide ((x7.1.length:Int)=0))) fun x21=>ifB x21 (x13 (x7.1,x7.2.1,true,x7.2.2.2)) (ja (atL x7.2.1 0) fun x22=>ja (atL x7.1 0) fun x23=>x13 (x7.1,x7.2.1,decide (x22<x23),x7.2.2.2)))) fun x8=>ja (some (decide ((x3.2.1.length:Int)=0))) fun x24=>ifB x24 (x8 (x3.1,x3.2.1,true,x3.2.2.2)) (ja (some (decide (0<(x3.1.length:Int)))) fun x25=>ifB x25 (ja (atL x3.1 0) fun x26=>ja (atL x3.2.1 0) fun x27=>x8 (x3.1,x3.2.1,decide (x26<x27),x3.2.2.2)) (x8 (x3.1,x3.2.1,false,x3.2.2.2)))) (some x3.2.2.2)) fun x4=>ja (some (decide (0<(x1.1.length:Int)))) fun x28=>ifB x28 (x4 (x1.1,x1.2.1,true,x1.2.2)) (x4 (x1.1,x1.2.1,decide (0<(x1.2.1.length:Int)),x1.2.2))) nn (a0,a1,[])
noncomputable def zuc:=lk (α:=HK) []
noncomputable def zlb:=lk (α:=HK) [(14, .meet ⟨[(0, .v (.sl (.int .i64))),(1, .v (.sl (.int .i64))),(5, .pt 1 0),(6, .fn 230 [] [])],[(0, .box 31 [.own 2]),(1, .box 220 [.fn 202 [] [.pt 0 0], .fn 202 [] [.pt 0 0], .fn 202 [] [.pt 0 0]]),(2, .row 3 (.int .i64))],3⟩),(112, .meet ⟨[(0, .v (.sl (.int .i64))),(1, .v (.sl (.int .i64))),(5, .pt 1 0),(6, .fn 230 [] []),(14, .v .bool)],[(0, .box 31 [.own 2]),(1, .box 220 [.fn 202 [] [.pt 0 0], .fn 202 [] [.pt 0 0], .fn 202 [] [.pt 0 0]]),(2, .row 3 (.int .i64))],3⟩),(114, .meet ⟨[(0, .v (.sl (.int .i64))),(1, .v (.sl (.int .i64))),(5, .pt 1 0),(6, .fn 230 [] [])],[(0, .box 31 [.own 2]),(1, .box 220 [.fn 202 [] [.pt 0 0], .fn 202 [] [.pt 0 0], .fn 202 [] [.pt 0 0]]),(2, .row 3 (.int .i64))],3⟩),(456, .meet ⟨[(0, .v (.sl (.int .i64))),(1, .v (.sl (.int .i64))),(5, .pt 1 0),(6, .fn 230 [] []),(26, .v .bool)],[(0, .box 31 [.own 2]),(1, .box 220 [.fn 202 [] [.pt 0 0], .fn 202 [] [.pt 0 0], .fn 202 [] [.pt 0 0]]),(2, .row 3 (.int .i64))],3⟩),(1830, .meet ⟨[(0, .v (.sl (.int .i64))),(1, .v (.sl (.int .i64))),(5, .pt 1 0),(6, .fn 230 [] []),(53, .v .bool)],[(0, .box 31 [.own 2]),(1, .box 220 [.fn 202 [] [.pt 0 0], .fn 202 [] [.pt 0 0], .fn 202 [] [.pt 0 0]]),(2, .row 3 (.int .i64))],3⟩)]
noncomputable def zly:=lk (α:=HK) []
noncomputable def zme:=lk (α:=HK) []
noncomputable def zmm:=lk (α:=HK) []
noncomputable def zlm:=lk (α:=HK) []
noncomputable def zlq:=lk (α:=HK) []
noncomputable def zkt:=lk (α:=HK) []
noncomputable abbrev zs7 (nn:Nat):FF:=⟨[(.sl (.int .i64)),(.sl (.int .i64))],3,(.int .i64),fun t=>yp nn (t.1) (t.2)⟩
set_option maxRecDepth 100000 in
theorem Qo (nn:Nat):FFOk 172 (zs7 nn):=mk2 Tryz.func172 nn 9 [(1,[9,29,33,56])] [(3,[(5, .told (.int .i64))]),(5,[(5, .told (.int .i64))]),(7,[(5, .told (.int .i64))])] [] [] (itc 1980203 Tryz.func203 zlb 1 [] (itc 10003900230 Tryz.func230 zly 2 [] (itc 20000660202 Tryz.func202 zme 3 [1] (itc 10005820230 Tryz.func230 zmm 4 [] (itc 40000660202 Tryz.func202 zlm 5 [1] (itc 10001980230 Tryz.func230 zlq 6 [] (itc 60000660202 Tryz.func202 zkt 7 [1] itn (by kernel_rfl)) (by kernel_rfl)) (by kernel_rfl)) (by kernel_rfl)) (by kernel_rfl)) (by kernel_rfl)) (by kernel_rfl)) zuc rn gn tn (by kernel_rfl) fun t=>by kernel_rfl
noncomputable abbrev J6:=yp
noncomputable abbrev zvx (nn:Nat):PF:=⟨[(.sl (.int .i64)),(.sl (.int .i64))],(.sl (.int .i64)),fun t=>yp nn (t.1) (t.2)⟩
theorem zdg (nn:Nat):qe 172 (zvx nn):=(Qo nn).pure
noncomputable def Qb (nn:Nat) (a0:(Option Yi)) (a1:(List jf)):Option (List Int):=J (fun(x1:(List Int))=>some x1) fun x2=>jt (fun(x3:(Option Yi)×(List jf)×Int×Int×(List Int)) x4=>ifB (decide (x3.2.2.2.1<x3.2.2.1)) (ja (atL x3.2.1 x3.2.2.2.1) fun x5=>ifB (!x5.1) (ja (J6 nn x3.2.2.2.2 [x5.2.1]) fun x6=>some x6) (ja (x3.1) fun x7=>ja (atL x7.2.1 x5.2.1) fun x8=>ja (J6 nn x3.2.2.2.2 x8) fun x9=>ja (x3.1) fun x10=>ja (atL x10.1 x5.2.1) fun x11=>ifB (!x11) (x2 x9) (ja (some (w64 (x3.2.2.2.1+1))) fun x12=>x4 (x3.1,x3.2.1,x3.2.2.1,x12,x9)))) (x2 x3.2.2.2.2)) nn (a0,a1,(a1.length:Int),0,[])
noncomputable def zfd:=lk (α:=HK) [(29, .meet ⟨[(5, .own 0)],[(0, .row 3 (.int .i64))],1⟩),(58, .meet ⟨[(0, .v (.ref Yq)),(5, .own 0),(8, .v (.sl Y_api_Item)),(9, .v (.int .i64)),(10, .v (.int .i64))],[(0, .row 3 (.int .i64))],1⟩)]
noncomputable abbrev ze8 (nn:Nat):FF:=⟨[(.ref Yq),(.sl Y_api_Item)],3,(.int .i64),fun t=>Qb nn (t.1) (t.2)⟩
set_option maxRecDepth 100000 in
theorem Q9 (nn:Nat):FFOk 201 (ze8 nn):=mk2 Tryz.func201 nn 0 [(0,[41])] [(0,[(20, .told (.int .i64))])] [] [388,457] itn zfd rn (gc (Qo nn) gn) tn (by kernel_rfl) fun t=>by kernel_rfl
noncomputable abbrev zd:=Qb
noncomputable def yo (nn:Nat) (a0:jb):Option (Option Yi):=ja (qm nn a0) fun x1=>ifB (!x1) (some none) (ja (q5 nn a0) fun x2=>ja (some (a0.2.1.length:Int)) fun x3=>ja (mkO 24 x3) fun x4=>jt (fun(x5:Bool×jb×(List Bool)×(List (List Int))) x6=>ifB x5.1 (jt (fun(x7:Bool×(List jh)×Int×Int×jb×(List Bool)×(List (List Int))) x8=>ifB (decide (x7.2.2.2.1<x7.2.2.1)) (ja (atL x7.2.1 x7.2.2.2.1) fun x9=>J (fun(x10:Bool×(List jh)×Int×Int×jb×(List Bool)×(List (List Int)))=>ja (some (w64 (x10.2.2.2.1+1))) fun x12=>x8 (x10.1,x10.2.1,x10.2.2.1,x12,x10.2.2.2.2.1,x10.2.2.2.2.2.1,x10.2.2.2.2.2.2)) fun x11=>ja (qz x7.2.2.2.2.2.2.length x9.1) fun x13=>ja (atL x7.2.2.2.2.2.2 x13) fun x14=>ja (zd nn (some (x7.2.2.2.2.2.1,x7.2.2.2.2.2.2,())) x9.2.1) fun x15=>ja (J6 nn x14 x15) fun x16=>ja (qz x7.2.2.2.2.2.2.length x9.1) fun x17=>ja (atL x7.2.2.2.2.2.2 x17) fun x18=>ja (qz x7.2.2.2.2.2.2.length x9.1) fun x19=>ja (Zg x7.2.2.2.2.2.2 x19 x16) fun x20=>ifB (decide ((x18.length:Int)<(x16.length:Int))) (x11 (true,x7.2.1,x7.2.2.1,x7.2.2.2.1,x7.2.2.2.2.1,x7.2.2.2.2.2.1,x20)) (x11 (x7.1,x7.2.1,x7.2.2.1,x7.2.2.2.1,x7.2.2.2.2.1,x7.2.2.2.2.2.1,x20))) (x6 (x7.1,x7.2.2.2.2.1,x7.2.2.2.2.2.1,x7.2.2.2.2.2.2))) nn (false,x5.2.1.2.2.1,(x5.2.1.2.2.1.length:Int),0,x5.2.1,x5.2.2.1,x5.2.2.2)) (some (some (x5.2.2.1,x5.2.2.2,())))) nn (true,a0,x2,(List.replicate x4 ([]:(List Int)))))
noncomputable def zt7:=lk (α:=HK) [(250, .meet ⟨[(1, .pt 0 0),(3, .pt 1 0),(4, .fn 229 [] [.pt 1 0]),(5, .v .bool)],[(0, .box 26 [.v Y_api_Grammar]),(1, .box 211 [.pt 2 0]),(2, .box 214 [.v (.sl .bool), .own 3]),(3, .row 31 (.sl (.int .i64)))],4⟩),(16022, .meet ⟨[(1, .pt 0 0),(3, .pt 1 0),(4, .fn 229 [] [.pt 1 0]),(5, .v .bool),(22, .v (.sl Y_api_Prod)),(23, .v (.int .i64)),(24, .v (.int .i64))],[(0, .box 26 [.v Y_api_Grammar]),(1, .box 211 [.pt 2 0]),(2, .box 214 [.v (.sl .bool), .own 3]),(3, .row 31 (.sl (.int .i64)))],4⟩),(1025433, .meet ⟨[(1, .pt 0 0),(3, .pt 1 0),(4, .fn 229 [] [.pt 1 0]),(5, .v .bool),(22, .v (.sl Y_api_Prod)),(23, .v (.int .i64)),(24, .v (.int .i64))],[(0, .box 26 [.v Y_api_Grammar]),(1, .box 211 [.pt 2 0]),(2, .box 214 [.v (.sl .bool), .own 3]),(3, .row 31 (.sl (.int .i64)))],4⟩)]
noncomputable def zl2:=lk (α:=HK) []
noncomputable abbrev zv3 (nn:Nat):PF:=⟨[Y_api_Grammar],(.ref Yq),fun t=>yo nn t⟩
set_option maxRecDepth 100000 in
theorem zdh (nn:Nat):qe 197 (zv3 nn):=mk1 Tryz.func197 nn 9 [(0,[15,34])] [] [(1000200,[(37,(.sl (.int .i64)))])] [1000075,1000076] (itc 7060229 Tryz.func229 zl2 1 [] itn (by kernel_rfl)) zt7 rn (gc (Qo nn) (gc (Q9 nn) gn)) (tc (vu nn) (tc (Zh nn) tn)) (by kernel_rfl) fun t=>by kernel_rfl
noncomputable def Y3 (nn:Nat) (a0:jb):Option (List (List Int)):=ja (yo nn a0) fun x1=>ifB x1.isNone (some []) (ja (x1) fun x2=>ja (some (x2.2.1.length:Int)) fun x3=>ja (mkO 24 x3) fun x4=>ja (x1) fun x5=>ja (z6p (List.replicate x4 ([]:(List Int))) x5.2.1) fun x6=>some x6.2)
noncomputable def zwo:=lk (α:=HK) []
noncomputable abbrev zyw (nn:Nat):PF:=⟨[Y_api_Grammar],(.sl (.sl (.int .i64))),fun t=>Y3 nn t⟩
set_option maxRecDepth 100000 in
theorem zm8 (nn:Nat):qe 166 (zyw nn):=mk1 Tryz.func166 nn 0 [(0,[13])] [] [] [] itn zwo rn gn (tc (zdh nn) tn) (by kernel_rfl) fun t=>by kernel_rfl
noncomputable def yf (nn:Nat) (a0:jb):Option (List Bool):=ja (qm nn a0) fun x1=>ifB (!x1) (some []) (ja (some (a0.2.1.length:Int)) fun x2=>ja (mkO 1 x2) fun x3=>ja (qz (List.replicate x3 false).length a0.2.2.2.1) fun x4=>ja (Zg (List.replicate x3 false) x4 true) fun x5=>jt (fun(x6:(List jh)×Bool×(List Bool)) x7=>ifB x6.2.1 (jt (fun(x8:(List jh)×Bool×(List jh)×Int×Int×(List Bool)) x9=>ifB (decide (x8.2.2.2.2.1<x8.2.2.2.1)) (ja (atL x8.2.2.1 x8.2.2.2.2.1) fun x10=>J (fun(x11:(List jh)×Bool×(List jh)×Int×Int×(List Bool))=>ja (some (w64 (x11.2.2.2.2.1+1))) fun x13=>x9 (x11.1,x11.2.1,x11.2.2.1,x11.2.2.2.1,x13,x11.2.2.2.2.2)) fun x12=>jt (fun(x14:Bool×(List jf)×Int×Int×(List Bool)×jh) x15=>ifB (decide (x14.2.2.2.1<x14.2.2.1)) (J (fun(x16:Bool×(List jf)×Int×Int×(List Bool)×jh)=>ja (some (w64 (x16.2.2.2.1+1))) fun x18=>x15 (x16.1,x16.2.1,x16.2.2.1,x18,x16.2.2.2.2.1,x16.2.2.2.2.2)) fun x17=>ja (atL x14.2.1 x14.2.2.2.1) fun x19=>J (fun(x20:Bool×(List jf)×Int×Int×Bool×(List Bool)×jh×jf)=>ifB x20.2.2.2.2.1 (ja (qz x20.2.2.2.2.2.1.length x20.2.2.2.2.2.2.2.2.1) fun x22=>ja (Zg x20.2.2.2.2.2.1 x22 true) fun x23=>x17 (true,x20.2.1,x20.2.2.1,x20.2.2.2.1,x23,x20.2.2.2.2.2.2.1)) (x17 (x20.1,x20.2.1,x20.2.2.1,x20.2.2.2.1,x20.2.2.2.2.2.1,x20.2.2.2.2.2.2.1))) fun x21=>ja (qz x14.2.2.2.2.1.length x14.2.2.2.2.2.1) fun x24=>ja (atL x14.2.2.2.2.1 x24) fun x25=>ifB x25 (ifB x19.1 (ja (qz x14.2.2.2.2.1.length x19.2.1) fun x26=>ja (atL x14.2.2.2.2.1 x26) fun x27=>x21 (x14.1,x14.2.1,x14.2.2.1,x14.2.2.2.1,!x27,x14.2.2.2.2.1,x14.2.2.2.2.2,x19)) (x21 (x14.1,x14.2.1,x14.2.2.1,x14.2.2.2.1,false,x14.2.2.2.2.1,x14.2.2.2.2.2,x19))) (x21 (x14.1,x14.2.1,x14.2.2.1,x14.2.2.2.1,false,x14.2.2.2.2.1,x14.2.2.2.2.2,x19))) (ifB x14.1 (x12 (x8.1,true,x8.2.2.1,x8.2.2.2.1,x8.2.2.2.2.1,x14.2.2.2.2.1)) (x12 (x8.1,x8.2.1,x8.2.2.1,x8.2.2.2.1,x8.2.2.2.2.1,x14.2.2.2.2.1)))) nn (false,x10.2.1,(x10.2.1.length:Int),0,x8.2.2.2.2.2,x10)) (x7 (x8.1,x8.2.1,x8.2.2.2.2.2))) nn (x6.1,false,x6.1,(x6.1.length:Int),0,x6.2.2)) (some x6.2.2)) nn (a0.2.2.1,true,x5))
noncomputable def zog:=lk (α:=HK) []
noncomputable def zhf:=lk (α:=HK) [(6, .meet ⟨[(0, .v (.sl Y_api_Prod)),(1, .fn 101 [] [.pt 0 0]),(4, .v .bool)],[(0, .box 42 [.own 1]),(1, .row 4 .bool)],2⟩),(406, .meet ⟨[(0, .v (.sl Y_api_Prod)),(1, .fn 101 [] [.pt 0 0]),(4, .v .bool),(8, .v (.sl Y_api_Prod)),(9, .v (.int .i64)),(10, .v (.int .i64))],[(0, .box 42 [.own 1]),(1, .row 4 .bool)],2⟩),(26009, .meet ⟨[(0, .v (.sl Y_api_Prod)),(1, .fn 101 [] [.pt 0 0]),(4, .v .bool),(8, .v (.sl Y_api_Prod)),(9, .v (.int .i64)),(10, .v (.int .i64))],[(0, .box 42 [.own 1]),(1, .row 4 .bool)],2⟩)]
noncomputable def zgm:=lk (α:=HK) [(58, .meet ⟨[(1, .pt 0 0),(2, .pt 2 0),(4, .v .bool),(8, .v (.sl Y_api_Item)),(9, .v (.int .i64)),(10, .v (.int .i64))],[(0, .box 42 [.own 1]),(1, .row 4 .bool),(2, .box 66 [.v Y_api_Prod])],3⟩),(934, .meet ⟨[(1, .pt 0 0),(2, .pt 2 0),(4, .v .bool),(8, .v (.sl Y_api_Item)),(9, .v (.int .i64)),(10, .v (.int .i64))],[(0, .box 42 [.own 1]),(1, .row 4 .bool),(2, .box 66 [.v Y_api_Prod])],3⟩),(7474, .meet ⟨[(1, .pt 0 0),(2, .pt 2 0),(4, .v .bool),(6, .pt 3 0),(8, .v (.sl Y_api_Item)),(9, .v (.int .i64)),(10, .v (.int .i64)),(30, .v .bool)],[(0, .box 42 [.own 1]),(1, .row 4 .bool),(2, .box 66 [.v Y_api_Prod]),(3, .box 54 [.v Y_api_Item])],4⟩)]
noncomputable abbrev znp (nn:Nat):FF:=⟨[Y_api_Grammar],4, .bool,fun t=>yf nn t⟩
set_option maxRecDepth 100000 in
theorem zgy (nn:Nat):FFOk 63 (znp nn):=mk2 Tryz.func63 nn 9 [(0,[9]),(1,[20]),(2,[35])] [] [] [] (itc 3230100 Tryz.func100 zhf 1 [] (itc 10003860101 Tryz.func101 zgm 2 [] itn (by kernel_rfl)) (by kernel_rfl)) zog rn gn (tc (vu nn) tn) (by kernel_rfl) fun t=>by kernel_rfl
noncomputable abbrev zny (nn:Nat):PF:=⟨[Y_api_Grammar],(.sl .bool),fun t=>yf nn t⟩
theorem zas (nn:Nat):qe 63 (zny nn):=(zgy nn).pure
noncomputable def Zw (nn:Nat) (a0:jb):Option Int:=ja (qm nn a0) fun x1=>ifB (!x1) (some (-1)) (some (a0.1.length:Int))
noncomputable def zus:=lk (α:=HK) []
noncomputable abbrev zs3 (nn:Nat):PF:=⟨[Y_api_Grammar],(.int .i64),fun t=>Zw nn t⟩
set_option maxRecDepth 100000 in
theorem zks (nn:Nat):qe 168 (zs3 nn):=mk1 Tryz.func168 nn 0 [] [] [] [] itn zus rn gn (tc (vu nn) tn) (by kernel_rfl) fun t=>by kernel_rfl
noncomputable def Jz (nn:Nat) (a0:jb):Option (List (List Int)):=ja (qm nn a0) fun x1=>ifB (!x1) (some []) (ja (Y3 nn a0) fun x2=>ja (q5 nn a0) fun x3=>ja (yf nn a0) fun x4=>ja (some (a0.2.1.length:Int)) fun x5=>ja (mkO 24 x5) fun x6=>ja (Zw nn a0) fun x7=>ja (qz (List.replicate x6 ([]:(List Int))).length a0.2.2.2.1) fun x8=>ja (Zg (List.replicate x6 ([]:(List Int))) x8 [x7]) fun x9=>jt (fun(x10:Bool×jb×(List (List Int))×(List Bool)×(List Bool)×(List (List Int))) x11=>ifB x10.1 (jt (fun(x12:Bool×(List jh)×Int×Int×jb×(List (List Int))×(List Bool)×(List Bool)×(List (List Int))) x13=>ifB (decide (x12.2.2.2.1<x12.2.2.1)) (J (fun(x14:Bool×(List jh)×Int×Int×jb×(List (List Int))×(List Bool)×(List Bool)×(List (List Int)))=>ja (some (w64 (x14.2.2.2.1+1))) fun x16=>x13 (x14.1,x14.2.1,x14.2.2.1,x16,x14.2.2.2.2.1,x14.2.2.2.2.2.1,x14.2.2.2.2.2.2.1,x14.2.2.2.2.2.2.2.1,x14.2.2.2.2.2.2.2.2)) fun x15=>ja (atL x12.2.1 x12.2.2.2.1) fun x17=>J (fun(x18:Bool×(List jh)×Int×Int×Bool×jb×(List (List Int))×(List Bool)×(List Bool)×(List (List Int)))=>ifB x18.2.2.2.2.1 (x15 (true,x18.2.1,x18.2.2.1,x18.2.2.2.1,x18.2.2.2.2.2.1,x18.2.2.2.2.2.2.1,x18.2.2.2.2.2.2.2.1,x18.2.2.2.2.2.2.2.2.1,x18.2.2.2.2.2.2.2.2.2)) (x15 (x18.1,x18.2.1,x18.2.2.1,x18.2.2.2.1,x18.2.2.2.2.2.1,x18.2.2.2.2.2.2.1,x18.2.2.2.2.2.2.2.1,x18.2.2.2.2.2.2.2.2.1,x18.2.2.2.2.2.2.2.2.2))) fun x19=>ja (atL x12.2.2.2.2.2.2.2.1 x17.1) fun x20=>ifB x20 (ja (qz x12.2.2.2.2.2.2.2.2.length x17.1) fun x21=>ja (atL x12.2.2.2.2.2.2.2.2 x21) fun x22=>ja (some (w64 ((x17.2.1.length:Int)-1))) fun x23=>jt (fun(x24:(List Int)×Int×(List (List Int))×(List Bool)×(List Bool)×(List (List Int))×jh×Bool) x25=>ifB (decide (0≤x24.2.1)) (J (fun(x26:(List Int)×Int×(List (List Int))×(List Bool)×(List Bool)×(List (List Int))×jh×Bool)=>ja (some (w64 (x26.2.1-1))) fun x28=>x25 (x26.1,x28,x26.2.2.1,x26.2.2.2.1,x26.2.2.2.2.1,x26.2.2.2.2.2.1,x26.2.2.2.2.2.2.1,x26.2.2.2.2.2.2.2)) fun x27=>ja (atL x24.2.2.2.2.2.2.1.2.1 x24.2.1) fun x29=>ifB (!x29.1) (x27 ([x29.2.1],x24.2.1,x24.2.2.1,x24.2.2.2.1,x24.2.2.2.2.1,x24.2.2.2.2.2.1,x24.2.2.2.2.2.2.1,x24.2.2.2.2.2.2.2)) (ja (qz x24.2.2.2.2.2.1.length x29.2.1) fun x30=>ja (atL x24.2.2.2.2.2.1 x30) fun x31=>ja (yp nn x31 x24.1) fun x32=>J (fun(x33:Int×(List Int)×(List (List Int))×(List Bool)×(List Bool)×(List (List Int))×Bool)=>ja (qz x33.2.2.2.2.2.1.length x33.1) fun x35=>ja (Zg x33.2.2.2.2.2.1 x35 x33.2.1) fun x36=>ja (atL x33.2.2.2.1 x29.2.1) fun x37=>ifB x37 (ja (atL x33.2.2.1 x29.2.1) fun x38=>ja (yp nn x24.1 x38) fun x39=>x27 (x39,x24.2.1,x33.2.2.1,x33.2.2.2.1,x33.2.2.2.2.1,x36,x24.2.2.2.2.2.2.1,x33.2.2.2.2.2.2)) (ja (atL x33.2.2.1 x29.2.1) fun x40=>x27 (x40,x24.2.1,x33.2.2.1,x33.2.2.2.1,x33.2.2.2.2.1,x36,x24.2.2.2.2.2.2.1,x33.2.2.2.2.2.2))) fun x34=>ifB x24.2.2.2.2.2.2.2 (x34 (x29.2.1,x32,x24.2.2.1,x24.2.2.2.1,x24.2.2.2.2.1,x24.2.2.2.2.2.1,true)) (ja (qz x24.2.2.2.2.2.1.length x29.2.1) fun x41=>ja (atL x24.2.2.2.2.2.1 x41) fun x42=>x34 (x29.2.1,x32,x24.2.2.1,x24.2.2.2.1,x24.2.2.2.2.1,x24.2.2.2.2.2.1,decide ((x42.length:Int)<(x32.length:Int)))))) (x19 (x12.1,x12.2.1,x12.2.2.1,x12.2.2.2.1,x24.2.2.2.2.2.2.2,x12.2.2.2.2.1,x24.2.2.1,x24.2.2.2.1,x24.2.2.2.2.1,x24.2.2.2.2.2.1))) nn (x22,x23,x12.2.2.2.2.2.1,x12.2.2.2.2.2.2.1,x12.2.2.2.2.2.2.2.1,x12.2.2.2.2.2.2.2.2,x17,false)) (x19 (x12.1,x12.2.1,x12.2.2.1,x12.2.2.2.1,false,x12.2.2.2.2.1,x12.2.2.2.2.2.1,x12.2.2.2.2.2.2.1,x12.2.2.2.2.2.2.2.1,x12.2.2.2.2.2.2.2.2))) (x11 (x12.1,x12.2.2.2.2.1,x12.2.2.2.2.2.1,x12.2.2.2.2.2.2.1,x12.2.2.2.2.2.2.2.1,x12.2.2.2.2.2.2.2.2))) nn (false,x10.2.1.2.2.1,(x10.2.1.2.2.1.length:Int),0,x10.2.1,x10.2.2.1,x10.2.2.2.1,x10.2.2.2.2.1,x10.2.2.2.2.2)) (some x10.2.2.2.2.2)) nn (true,a0,x2,x3,x4,x9))
noncomputable def zsu:=lk (α:=HK) [(250, .meet ⟨[(1, .pt 0 0),(3, .pt 1 0),(4, .v .bool)],[(0, .box 26 [.v Y_api_Grammar]),(1, .box 183 [.v (.sl (.sl (.int .i64))), .v (.sl .bool), .v (.sl .bool), .own 2]),(2, .row 31 (.sl (.int .i64)))],3⟩),(16022, .meet ⟨[(1, .pt 0 0),(3, .pt 1 0),(4, .v .bool),(34, .v (.sl Y_api_Prod)),(35, .v (.int .i64)),(36, .v (.int .i64))],[(0, .box 26 [.v Y_api_Grammar]),(1, .box 183 [.v (.sl (.sl (.int .i64))), .v (.sl .bool), .v (.sl .bool), .own 2]),(2, .row 31 (.sl (.int .i64)))],3⟩),(256358, .meet ⟨[(1, .pt 0 0),(3, .pt 1 0),(4, .v .bool),(34, .v (.sl Y_api_Prod)),(35, .v (.int .i64)),(36, .v (.int .i64))],[(0, .box 26 [.v Y_api_Grammar]),(1, .box 183 [.v (.sl (.sl (.int .i64))), .v (.sl .bool), .v (.sl .bool), .own 2]),(2, .row 31 (.sl (.int .i64)))],3⟩),(2050866, .meet ⟨[(1, .pt 0 0),(3, .pt 1 0),(4, .v .bool),(34, .v (.sl Y_api_Prod)),(35, .v (.int .i64)),(36, .v (.int .i64)),(52, .v .bool)],[(0, .box 26 [.v Y_api_Grammar]),(1, .box 183 [.v (.sl (.sl (.int .i64))), .v (.sl .bool), .v (.sl .bool), .own 2]),(2, .row 31 (.sl (.int .i64)))],3⟩)]
noncomputable def zl0:=lk (α:=HK) [(890, .meet ⟨[(2, .pt 2 0),(3, .pt 3 0),(5, .pt 4 0),(6, .fn 199 [] [.pt 2 0, .pt 4 0]),(7, .v (.sl (.int .i64))),(8, .v (.int .i64))],[(0, .box 183 [.v (.sl (.sl (.int .i64))), .v (.sl .bool), .v (.sl .bool), .own 1]),(1, .row 31 (.sl (.int .i64))),(2, .box 181 [.pt 0 0]),(3, .box 66 [.v Y_api_Prod]),(4, .box 4 [.v .bool])],5⟩),(7122, .meet ⟨[(2, .pt 2 0),(3, .pt 3 0),(5, .pt 4 0),(6, .fn 199 [] [.pt 2 0, .pt 4 0]),(7, .v (.sl (.int .i64))),(8, .v (.int .i64))],[(0, .box 183 [.v (.sl (.sl (.int .i64))), .v (.sl .bool), .v (.sl .bool), .own 1]),(1, .row 31 (.sl (.int .i64))),(2, .box 181 [.pt 0 0]),(3, .box 66 [.v Y_api_Prod]),(4, .box 4 [.v .bool])],5⟩)]
noncomputable def zlj:=lk (α:=HK) [(6, .meet ⟨[(0, .v (.int .i64)),(2, .pt 0 0),(6, .v (.sl (.int .i64)))],[(0, .box 181 [.pt 1 0]),(1, .box 183 [.v (.sl (.sl (.int .i64))), .v (.sl .bool), .v (.sl .bool), .own 2]),(2, .row 31 (.sl (.int .i64))),(3, .box 4 [.v .bool])],4⟩)]
noncomputable abbrev zvr (nn:Nat):PF:=⟨[Y_api_Grammar],(.sl (.sl (.int .i64))),fun t=>Jz nn t⟩
set_option maxRecDepth 100000 in
theorem zll (nn:Nat):qe 109 (zvr nn):=mk1 Tryz.func109 nn 9 [(0,[18,53]),(1,[22,26])] [(0,[(30, .own (.int .i64))]),(1,[(37, .told (.int .i64))])] [(266,[(30,(.sl (.int .i64)))])] [] (itc 7150169 Tryz.func169 zl0 1 [] (itc 10006440199 Tryz.func199 zlj 2 [] itn (by kernel_rfl)) (by kernel_rfl)) zsu rn gn (tc (zas nn) (tc (vu nn) (tc (zm8 nn) (tc (Zh nn) (tc (zks nn) (tc (zdg nn) tn)))))) (by kernel_rfl) fun t=>by kernel_rfl
noncomputable def Yn (nn:Nat) (a0:jb) (a1:(List jf)):Option Bool:=jt (fun(x1:(List jf)×Int×Int×jb) x2=>ifB (decide (x1.2.2.1<x1.2.1)) (ja (atL x1.1 x1.2.2.1) fun x3=>J (fun(x4:Int×(List jf)×Int×Int×jb×jf)=>J (fun(x6:(List jf)×Int×Int×Bool×jb)=>ifB x6.2.2.2.1 (some false) (ja (some (w64 (x6.2.2.1+1))) fun x8=>x2 (x6.1,x6.2.1,x8,x6.2.2.2.2))) fun x7=>ja (some (decide (x4.2.2.2.2.2.2.1<0))) fun x9=>ifB x9 (x7 (x4.2.1,x4.2.2.1,x4.2.2.2.1,true,x4.2.2.2.2.1)) (x7 (x4.2.1,x4.2.2.1,x4.2.2.2.1,decide (x4.1≤x4.2.2.2.2.2.2.1),x4.2.2.2.2.1))) fun x5=>ifB x3.1 (x5 ((x1.2.2.2.2.1.length:Int),x1.1,x1.2.1,x1.2.2.1,x1.2.2.2,x3)) (x5 ((x1.2.2.2.1.length:Int),x1.1,x1.2.1,x1.2.2.1,x1.2.2.2,x3))) (some true)) nn (a1,(a1.length:Int),0,a0)
noncomputable def zq6:=lk (α:=HK) [(26, .meet ⟨[(2, .pt 0 0),(8, .v (.sl Y_api_Item)),(9, .v (.int .i64)),(10, .v (.int .i64))],[(0, .box 26 [.v Y_api_Grammar])],1⟩),(3379, .meet ⟨[(2, .pt 0 0),(6, .pt 1 0),(7, .v (.int .i64)),(8, .v (.sl Y_api_Item)),(9, .v (.int .i64)),(10, .v (.int .i64))],[(0, .box 26 [.v Y_api_Grammar]),(1, .box 54 [.v Y_api_Item])],2⟩),(13518, .meet ⟨[(2, .pt 0 0),(8, .v (.sl Y_api_Item)),(9, .v (.int .i64)),(10, .v (.int .i64)),(30, .v .bool)],[(0, .box 26 [.v Y_api_Grammar])],1⟩)]
noncomputable abbrev zqm (nn:Nat):PF:=⟨[Y_api_Grammar,(.sl Y_api_Item)], .bool,fun t=>Yn nn (t.1) (t.2)⟩
set_option maxRecDepth 100000 in
theorem zj0 (nn:Nat):qe 200 (zqm nn):=mk1 Tryz.func200 nn 0 [(0,[24,31])] [] [] [] itn zq6 rn gn tn (by kernel_rfl) fun t=>by kernel_rfl
noncomputable def zfy (nn:Nat) (a0:jb) (a1:(List jf)):Option (List Int):=ja (yo nn a0) fun x1=>J (fun(x2:(List jf)×(Option Yi)×Bool)=>ifB x2.2.2 (some []) (ja (zd nn x2.2.1 x2.1) fun x4=>some x4)) fun x3=>ifB x1.isNone (x3 (a1,x1,true)) (ja (Yn nn a0 a1) fun x5=>x3 (a1,x1,!x5))
noncomputable def z0x:=lk (α:=HK) [(28, .meet ⟨[(1, .v (.sl Y_api_Item)),(5, .v (.ref Yq)),(15, .v .bool)],[],0⟩)]
noncomputable abbrev z1k (nn:Nat):FF:=⟨[Y_api_Grammar,(.sl Y_api_Item)],3,(.int .i64),fun t=>zfy nn (t.1) (t.2)⟩
set_option maxRecDepth 100000 in
theorem zqt (nn:Nat):FFOk 170 (z1k nn):=mk2 Tryz.func170 nn 0 [] [] [] [258] itn z0x rn (gc (Q9 nn) gn) (tc (zdh nn) (tc (zj0 nn) tn)) (by kernel_rfl) fun t=>by kernel_rfl
noncomputable abbrev zgf:=zfy
noncomputable def za4 (nn:Nat) (a0:jb) (a1:(List jf)):Option Bool:=ja (q5 nn a0) fun x1=>ja (z88 x1) fun x2=>ifB x2 (some false) (jt (fun(x3:(List Bool)×(List jf)×Int×Int) x4=>ifB (decide (x3.2.2.2<x3.2.2.1)) (ja (atL x3.2.1 x3.2.2.2) fun x5=>J (fun(x6:(List Bool)×(List jf)×Int×Int×Bool)=>ifB x6.2.2.2.2 (some false) (ja (some (w64 (x6.2.2.2.1+1))) fun x8=>x4 (x6.1,x6.2.1,x6.2.2.1,x8))) fun x7=>ja (some (!x5.1)) fun x9=>ifB x9 (x7 (x3.1,x3.2.1,x3.2.2.1,x3.2.2.2,true)) (ifB (decide (x5.2.1<0)) (x7 (x3.1,x3.2.1,x3.2.2.1,x3.2.2.2,true)) (ifB (decide ((x3.1.length:Int)≤x5.2.1)) (x7 (x3.1,x3.2.1,x3.2.2.1,x3.2.2.2,true)) (ja (atL x3.1 x5.2.1) fun x10=>x7 (x3.1,x3.2.1,x3.2.2.1,x3.2.2.2,!x10))))) (some true)) nn (x1,a1,(a1.length:Int),0))
noncomputable def zws:=lk (α:=HK) [(122, .meet ⟨[(5, .v (.sl .bool)),(12, .v (.sl Y_api_Item)),(13, .v (.int .i64)),(14, .v (.int .i64))],[],0⟩),(15666, .meet ⟨[(5, .v (.sl .bool)),(12, .v (.sl Y_api_Item)),(13, .v (.int .i64)),(14, .v (.int .i64)),(40, .v .bool)],[],0⟩)]
noncomputable abbrev zxy (nn:Nat):PF:=⟨[Y_api_Grammar,(.sl Y_api_Item)], .bool,fun t=>za4 nn (t.1) (t.2)⟩
set_option maxRecDepth 100000 in
theorem zpj (nn:Nat):qe 171 (zxy nn):=mk1 Tryz.func171 nn 0 [(0,[20,41])] [] [] [] itn zws rn gn (tc (Zh nn) tn) (by kernel_rfl) fun t=>by kernel_rfl
noncomputable def yj (nn:Nat) (a0:jb) (a1:(List (List Int))) (a2:jh):Option (List Int):=ja (zgf nn a0 a2.2.1) fun x1=>J (fun(x2:(List Int))=>some x2) fun x3=>ja (za4 nn a0 a2.2.1) fun x4=>ifB x4 (ja (atL a1 a2.1) fun x5=>ja (J6 nn x1 x5) fun x6=>x3 x6) (x3 x1)
noncomputable def zlu:=lk (α:=HK) [(7, .meet ⟨[(7, .own 0)],[(0, .row 3 (.int .i64))],1⟩)]
noncomputable abbrev zk7 (nn:Nat):FF:=⟨[Y_api_Grammar,(.sl (.sl (.int .i64))),Y_api_Prod],3,(.int .i64),fun t=>yj nn (t.1) (t.2.1) (t.2.2)⟩
set_option maxRecDepth 100000 in
theorem zft (nn:Nat):FFOk 110 (zk7 nn):=mk2 Tryz.func110 nn 0 [] [] [] [67,198] itn zlu rn (gc (zqt nn) (gc (Qo nn) gn)) (tc (zpj nn) tn) (by kernel_rfl) fun t=>by kernel_rfl
noncomputable abbrev zl3 (nn:Nat):PF:=⟨[Y_api_Grammar,(.sl (.sl (.int .i64))),Y_api_Prod],(.sl (.int .i64)),fun t=>yj nn (t.1) (t.2.1) (t.2.2)⟩
theorem zfz (nn:Nat):qe 110 (zl3 nn):=(zft nn).pure
def z0e {α β:Type} (f:α→Option β):List α→Option (List β)
 | []=>some []
 | a :: l=>ja (f a) fun b=>ja (z0e f l) fun r=>some (b :: r)
theorem z17 {α β:Type} {f:α→Option β}:∀ {l:List α} {r:List β},z0e f l=some r→∀(i:Nat) (a:α),l[i]? = some a→∃ b,f a=some b∧r[i]? = some b
 | [],r,h,i,a,hi=>by simp at hi
 | x :: l,r,h,i,a,hi=>by
  unfold z0e at h
  cases hx:f x with
  | none=>rw[hx] at h;cases h
  | some b=>
   rw[hx] at h
   cases hl:z0e f l with
   | none=>simp only[ja,hl] at h;cases h
   | some r'=>
    simp only[ja,hl] at h
    cases h
    cases i with
    | zero=>simp at hi;subst hi;exact⟨b,hx,rfl⟩
    | succ i=>
     obtain⟨c,h1,h2⟩:=z17 hl i a (by simpa using hi)
     exact⟨c,h1,by simpa using h2⟩
noncomputable def zke (nn:Nat) (g:jb):Option PM:=ja (Jz nn g) fun beh=>ja (z0e (fun p=>yj nn g beh p) g.2.2.1) fun rows=>
 ifB (decide (g.2.2.1.length≤1000000) && rows.all fun l=>decide (l.length≤1000000)) (zcy (fun i=>rows.getD i []) 0 (g.2.2.1.map (·.1)) []) none
def prC (p:jh):PrP:=(p.1,enc (.sl Y_api_Item) p.2.1)
theorem zwn (g:jb):enc Y_api_Grammar g = .agg (enc (.sl Y_api_Token) g.1 :: enc (.sl .str) g.2.1 :: .sl 2 ((g.2.2.1.map prC).map prV) :: (encC Y_api_Grammar g).drop 3):=by
 rw[List.map_map]
 rfl
theorem zzr (g:jb) (hp:g.2.2.1.length≤1000000):GrV (enc Y_api_Grammar g) (g.2.2.1.map prC) where
 shape:=⟨_,_,_,_,zwn g⟩
 len:=⟨wid Y_api_Grammar,by kernel_rfl,by rw[enc_cells,jr]⟩
 ok:=fun H=>by
  show(encC Y_api_Grammar g).all (qc H)=true
  rfl
 np:=J1 _ _
 pn:=fun p h=>by
  obtain⟨x,_,rfl⟩:=List.mem_map.1 h
  exact⟨(show NoP (enc (.sl Y_api_Item) x.2.1) from J1 _ _),fun _=>rfl,rfl⟩
 pl:=by rw[List.length_map];exact hp
theorem zwj {nn:Nat} {g:jb} {m:PM} (h:zke nn g=some m):GrV (enc Y_api_Grammar g) (g.2.2.1.map prC)∧zou (enc Y_api_Grammar g) m:=by
 unfold zke at h
 cases hb:Jz nn g with
 | none=>rw[hb] at h;cases h
 | some beh=>
  rw[hb] at h
  simp only[ja] at h
  cases hr:z0e (fun p=>yj nn g beh p) g.2.2.1 with
  | none=>rw[hr] at h;cases h
  | some rows=>
   rw[hr] at h
   simp only at h
   cases hc:(decide (g.2.2.1.length≤1000000) && rows.all fun l=>decide (l.length≤1000000)) with
   | false=>rw[hc] at h;cases h
   | true=>
    rw[hc] at h
    simp only[Bool.and_eq_true,decide_eq_true_eq,List.all_eq_true] at hc
    have hg:=zzr g hc.1
    refine⟨hg,hg.fill (pr:=fun i=>rows.getD i []) (beh:=enc (.sl (.sl (.int .i64))) beh) ((zll nn).2 g beh hb) (J1 _ _) (fun i p hp=>?_) (by rw[List.map_map];exact h)⟩
    rw[List.getElem?_map] at hp
    obtain⟨x,hx,rfl⟩:=Option.map_eq_some_iff.1 hp
    obtain⟨l,h1,h2⟩:=z17 hr i x hx
    have e:rows.getD i []=l:=by rw[List.getD_eq_getElem?_getD,h2];rfl
    simp only[e]
    exact⟨(zfz nn).2 (g,beh,x) l h1,by simpa using hc.2 l (List.mem_of_getElem? h2)⟩
noncomputable def Jb (nn:Nat) (a0:jb):Option (jk×Int×Unit):=ja (qm nn a0) fun b=>ifB (decide (a0.2.2.1.length≤1000000)) (ifB b (ja (zke nn a0) fun m=>ja (zi6 m) fun r=>some ((r.1.1,r.1.2.1,r.1.2.2,()),r.2,())) (some ((0,0,0,()), -1,()))) none
noncomputable abbrev zqz (nn:Nat):PF:=⟨[Y_api_Grammar],(.tup (.cons jl (.cons (.int .i64) .nil))),fun t=>Jb nn t⟩
theorem zh9 (nn:Nat):qe 69 (zqz nn):=⟨by kernel_rfl,fun g r h=>by
 have h:Jb nn g=some r:=h
 unfold Jb at h
 cases hb:qm nn g with
 | none=>rw[hb] at h;cases h
 | some b=>
  rw[hb] at h
  simp only[ja] at h
  by_cases hp:g.2.2.1.length≤1000000
  ·rw[decide_eq_true hp] at h
   have hr:=(vu nn).2 g b hb
   cases b with
   | false=>cases h;exact z0s (zzr g hp) hr
   | true=>
    simp only[ifB] at h
    cases hf:zke nn g with
    | none=>rw[hf] at h;cases h
    | some m=>
     rw[hf] at h
     simp only at h
     cases hc:zi6 m with
     | none=>rw[hc] at h;cases h
     | some q=>
      rw[hc] at h
      cases h
      obtain⟨h1,h2⟩:=zwj hf
      exact z59 h1 hr h2 hc
  ·rw[decide_eq_false hp] at h;cases h⟩
def zpt (g:jb) (m:PM):Bool:=decide (g.2.1.length≤1000000) && (decide (g.1.length≤1000000) && ((m.all fun e=>decide (0≤e.1.1) && (decide (e.1.1<g.2.1.length) && (decide (0≤e.1.2) && (decide (e.1.2<(g.1.length:Int)+1) && decide (e.2≠[]))))) && decide ((m.map (·.1)).Nodup)))
theorem z0v {m:PM} (h:(m.map (·.1)).Nodup) {e e':(Int×Int)×List Int} (h1:e∈m) (h2:e'∈m) (h3:e.1=e'.1):e=e':=by
 obtain⟨i,hi⟩:=List.getElem?_of_mem h1
 obtain⟨j,hj⟩:=List.getElem?_of_mem h2
 have ei:(m.map (·.1))[i]? = some e.1:=by rw[List.getElem?_map,hi];rfl
 have ej:(m.map (·.1))[j]? = some e.1:=by rw[List.getElem?_map,hj,h3];rfl
 obtain⟨l1,k1⟩:=List.getElem?_eq_some_iff.1 ei
 obtain⟨l2,k2⟩:=List.getElem?_eq_some_iff.1 ej
 have:=(List.getElem_inj h).1 (k1.trans k2.symm)
 subst this
 rw[hi] at hj
 cases hj;rfl
noncomputable def z6 (nn:Nat) (a0:jb):Option (List (List Int)×Int×Unit):=ja (qm nn a0) fun b=>ifB (decide (a0.2.2.1.length≤1000000)) (ifB b (ja (zke nn a0) fun m=>ifB (jw m).2 (some ([],15,())) (ifB (zpt a0 m) (some (z9w a0.2.1.length (a0.1.length+1) m,0,())) none)) (some ([],3,()))) none
noncomputable abbrev zqy (nn:Nat):PF:=⟨[Y_api_Grammar],(.tup (.cons (.sl (.sl (.int .i64))) (.cons (.int .i64) .nil))),fun t=>z6 nn t⟩
theorem zia (nn:Nat):qe 26 (zqy nn):=⟨by kernel_rfl,fun g r h=>by
 have h:z6 nn g=some r:=h
 unfold z6 at h
 cases hb:qm nn g with
 | none=>rw[hb] at h;cases h
 | some b=>
  rw[hb] at h
  simp only[ja] at h
  by_cases hp:g.2.2.1.length≤1000000
  ·rw[decide_eq_true hp] at h
   have hr:=(vu nn).2 g b hb
   cases b with
   | false=>cases h;exact z1p (zzr g hp) hr
   | true=>
    simp only[ifB] at h
    cases hf:zke nn g with
    | none=>rw[hf] at h;cases h
    | some m=>
     rw[hf] at h
     simp only at h
     obtain⟨h1,h2⟩:=zwj hf
     cases hc:(jw m).2 with
     | true=>rw[hc] at h;cases h;exact zx1 h1 hr h2 hc
     | false=>
      rw[hc] at h
      cases ht:zpt g m with
      | false=>rw[ht] at h;cases h
      | true=>
       rw[ht] at h
       cases h
       unfold zpt at ht
       simp only[Bool.and_eq_true,decide_eq_true_eq,List.all_eq_true] at ht
       obtain⟨t1,t2,t3,t4⟩:=ht
       have:=z8s h1 (zwn g) hr h2 hc (by simpa using t1) (by simpa using t2) (fun e he=>by
        obtain⟨k1,k2,k3,k4,k5⟩:=t3 e he
        exact⟨k1,by simpa using k2,k3,by simpa using k4,k5⟩) (fun e e'=>z0v t4)
       rw[List.length_map,List.length_map] at this
       exact this
  ·rw[decide_eq_false hp] at h;cases h⟩
noncomputable def za9 (nn:Nat) (a0:jb):Option Bool:=jt (fun(x1:Int×Int×jb) x2=>ifB (decide (x1.2.1<(x1.2.2.1.length:Int))) (ja (atL x1.2.2.1 x1.2.1) fun x3=>ja (atL x1.2.2.1 x1.2.1) fun x4=>ja (some (w64 ((w64 (x1.1+(min (x3.2.1.length:Int) 1000)))+(min (x4.1.length:Int) 1000)))) fun x5=>ja (some (w64 (x1.2.1+1))) fun x6=>x2 (x5,x6,x1.2.2)) (jt (fun(x7:Int×Int×jb) x8=>ifB (decide (x7.2.1<(x7.2.2.2.1.length:Int))) (ja (atL x7.2.2.2.1 x7.2.1) fun x9=>ja (some (w64 (x7.1+(min (x9.length:Int) 1000)))) fun x10=>ja (some (w64 (x7.2.1+1))) fun x11=>x8 (x10,x11,x7.2.2)) (jt (fun(x12:Int×Int×jb) x13=>ifB (decide (x12.2.1<(x12.2.2.2.2.1.length:Int))) (ja (atL x12.2.2.2.2.1 x12.2.1) fun x14=>ja (some (w64 (x12.1+(min (x14.2.1.length:Int) 1000)))) fun x15=>ja (some (w64 (x12.2.1+1))) fun x16=>x13 (x15,x16,x12.2.2)) (J (fun(x17:Bool)=>some x17) fun x18=>ja (some (decide ((x12.2.2.1.length:Int)≤70))) fun x19=>ifB x19 (ifB (decide ((x12.2.2.2.1.length:Int)≤70)) (ifB (decide ((x12.2.2.2.2.1.length:Int)≤260)) (x18 (decide (x12.1≤1500))) (x18 false)) (x18 false)) (x18 false))) nn (x7.1,0,x7.2.2))) nn (x1.1,0,x1.2.2))) nn (0,0,a0)
noncomputable def zxo:=lk (α:=HK) [(58, .meet ⟨[(1, .pt 0 0),(3, .v (.int .i64)),(4, .v (.int .i64))],[(0, .box 26 [.v Y_api_Grammar])],1⟩),(122, .meet ⟨[(1, .pt 0 0),(3, .v (.int .i64)),(5, .v (.int .i64))],[(0, .box 26 [.v Y_api_Grammar])],1⟩),(126, .meet ⟨[(2, .v .bool)],[],0⟩),(250, .meet ⟨[(1, .pt 0 0),(3, .v (.int .i64)),(6, .v (.int .i64))],[(0, .box 26 [.v Y_api_Grammar])],1⟩)]
noncomputable abbrev zxj (nn:Nat):PF:=⟨[Y_api_Grammar], .bool,fun t=>za9 nn t⟩
set_option maxRecDepth 100000 in
theorem zot (nn:Nat):qe 52 (zxj nn):=mk1 Tryz.func52 nn 0 [(0,[13,32,39,48,55,65,69])] [] [] [] itn zxo rn gn tn (by kernel_rfl) fun t=>by kernel_rfl
noncomputable def Yk (nn:Nat) (a0:jb):Option Bool:=J (fun(x1:Bool)=>some x1) fun x2=>ja (za9 nn a0) fun x3=>ifB x3 (ifB (decide ((a0.2.1.length:Int)≤12)) (ifB (decide ((a0.1.length:Int)≤12)) (x2 (decide ((a0.2.2.1.length:Int)≤30))) (x2 false)) (x2 false)) (x2 false)
noncomputable def zqa:=lk (α:=HK) [(6, .meet ⟨[(2, .v .bool)],[],0⟩)]
noncomputable abbrev zqx (nn:Nat):PF:=⟨[Y_api_Grammar], .bool,fun t=>Yk nn t⟩
set_option maxRecDepth 100000 in
theorem zjt (nn:Nat):qe 23 (zqx nn):=mk1 Tryz.func23 nn 0 [] [] [] [] itn zqa rn gn (tc (zot nn) tn) (by kernel_rfl) fun t=>by kernel_rfl
noncomputable def Ym (nn:Nat) (a0:jb):Option Bool:=jt (fun(x1:Int×Int×jb) x2=>ifB (decide (x1.2.1<(x1.2.2.1.length:Int))) (ja (atL x1.2.2.1 x1.2.1) fun x3=>ja (some (w64 (x1.1+(min (x3.2.1.length:Int) 1000)))) fun x4=>ja (some (w64 (x1.2.1+1))) fun x5=>x2 (x4,x5,x1.2.2)) (J (fun(x6:Bool)=>some x6) fun x7=>ja (Yk nn x1.2.2) fun x8=>ifB x8 (ifB (decide (x1.1≤120)) (x7 (decide (x1.2.2.2.2.2.2.1≤200))) (x7 false)) (x7 false))) nn (0,0,a0)
noncomputable def zqn:=lk (α:=HK) [(30, .meet ⟨[(2, .v .bool)],[],0⟩),(58, .meet ⟨[(1, .pt 0 0),(3, .v (.int .i64)),(4, .v (.int .i64))],[(0, .box 26 [.v Y_api_Grammar])],1⟩)]
noncomputable abbrev zq7 (nn:Nat):PF:=⟨[Y_api_Grammar], .bool,fun t=>Ym nn t⟩
set_option maxRecDepth 100000 in
theorem zii (nn:Nat):qe 7 (zq7 nn):=mk1 Tryz.func7 nn 0 [(0,[11,21])] [] [] [] itn zqn rn gn (tc (zjt nn) tn) (by kernel_rfl) fun t=>by kernel_rfl
noncomputable def Ju (nn:Nat) (a0:(Option y5)):Option jk:=ja (a0) fun x1=>ja (Q5 nn x1.1) fun x2=>some x2
noncomputable def zig:=lk (α:=HK) []
noncomputable abbrev zjy (nn:Nat):PF:=⟨[(.ref y6)],jl,fun t=>Ju nn t⟩
set_option maxRecDepth 100000 in
theorem ze1 (nn:Nat):qe 56 (zjy nn):=mk1 Tryz.func56 nn 0 [] [] [] [] itn zig rn gn (tc (zc9 nn) tn) (by kernel_rfl) fun t=>by kernel_rfl
noncomputable def zq (nn:Nat) (a0:(List jd)):Option (List jd):=ja (z88 a0) fun x1=>ifB x1 (some []) (ja (apO 96 [] a0) fun x2=>some x2)
noncomputable def zr:=lk (α:=HK) []
noncomputable abbrev zk (nn:Nat):FF:=⟨[(.sl je)],173,je,fun t=>zq nn t⟩
set_option maxRecDepth 100000 in
theorem zc (nn:Nat):FFOk 209 (zk nn):=mk2 Tryz.func209 nn 0 [] [(0,[(5, .own je)])] [] [] itn zr rn gn tn (by kernel_rfl) fun t=>by kernel_rfl
noncomputable def vy (nn:Nat) (a0:List jd):Option (List jd):=apO 96 [] a0
noncomputable abbrev zu (nn:Nat):FF:=⟨[(.sl je)],173,je,fun t=>vy nn t⟩
set_option maxHeartbeats 2000000 in
set_option maxRecDepth 100000 in
theorem zf (nn:Nat):FFOk 209 (zu nn):=by
 have hu:Tryz.prog.underlying 196=some (.slice 173):=by kernel_rfl
 have q22:∀(w:World) (a:Option Addr) (n c n' c':Nat),(binOp .eql 196 (.slice a n c) (.slice none n' c')).run Tryz.prog w = .ok (.bool a.isNone) w:=fun w a n c n' c'=>Lib.run_eql_slice_nil w _ _ a n c n' c' hu
 refine z1h (zc nn) (fun x r=>cloneZ _) (fun c w=>?_) fun a c w=>?_
 ·go_enter Tryz.func209,Tryz.ntmps209
  go_wp2
  go_ret
  exact⟨rfl,rfl⟩
 ·have hs0:(v7 Tryz.prog 196).map (fun r=>(r.1,r.2.1,r.2.2.1))=some (173,12,96):=by kernel_rfl
  obtain⟨⟨e',k',b',z⟩,hse⟩:∃ r,v7 Tryz.prog 196=some r:=by
   cases h:v7 Tryz.prog 196 with
   | none=>rw[h] at hs0;cases hs0
   | some r=>exact⟨r,rfl⟩
  rw[hse] at hs0
  simp only[Option.map_some,Option.some.injEq,Prod.mk.injEq] at hs0
  obtain⟨rfl,rfl,rfl⟩:=hs0
  obtain⟨i,hu2,hi,hz,hsz,hby,hzs,hpos⟩:=Yb hse
  clear hse
  go_enter Tryz.func209,Tryz.ntmps209
  go_wp2_with (at_builtin;refine wpList_append_own _ rfl _ _ 196 rfl w.heap.size 173 i z 12 96 hu hi hz hsz hby hzs hpos _ _ _ rfl (World.ownsRow_made w #[] 0 (Nat.le_refl _) (Nat.zero_le _) rfl) a 0 c [] rfl rfl (by intro j u hj;simp at hj) (by intro u hu;cases hu) (by unfold maxLen;omega) (by omega) (by simp) ?_)
  intro v' w1 hown hgrow hnil
  go_wp2
  go_ret
  refine⟨v',rfl,hown,?_⟩
  exact((Below.refl _ w).alloc (Nat.le_refl _) _).grown hgrow (by simp) (by intro k hk;simp[Value.ownBlock] at hk;omega)
noncomputable abbrev zx:=vy
noncomputable def yw (nn:Nat) (a0:(List (Arr 4 Int))):Option (Arr 4 Int):=jt (fun(x1:(List (Arr 4 Int))×Int×Int×(Arr 4 Int)×(Arr 4 Int)) x2=>ifB (decide (x1.2.2.1<x1.2.1)) (ja (atL x1.1 x1.2.2.1) fun x3=>jt (fun(x4:(List (Arr 4 Int))×Int×Int×Int×(Arr 4 Int)×(Arr 4 Int)×(Arr 4 Int)) x5=>ifB (decide (x4.2.2.2.1<4)) (ja (qz 4 x4.2.2.2.1) fun x6=>ja (atL x4.2.2.2.2.2.1.l x6) fun x7=>ja (qz 4 x4.2.2.2.1) fun x8=>ja (atL x4.2.2.2.2.2.2.l x8) fun x9=>ja (qz 4 x4.2.2.2.1) fun x10=>ja (zqw x4.2.2.2.2.2.1 x10 (orI .u64 x7 x9)) fun x11=>ja (some (w64 (x4.2.2.2.1+1))) fun x12=>x5 (x4.1,x4.2.1,x4.2.2.1,x12,x4.2.2.2.2.1,x11,x4.2.2.2.2.2.2)) (ja (some (w64 (x4.2.2.1+1))) fun x13=>x2 (x4.1,x4.2.1,x13,x4.2.2.2.2.1,x4.2.2.2.2.2.1))) nn (x1.1,x1.2.1,x1.2.2.1,0,x1.2.2.2.1,x1.2.2.2.2,x3)) (some x1.2.2.2.2)) nn (a0,(a0.length:Int),0,⟨List.replicate 4 0,List.length_replicate⟩,⟨List.replicate 4 0,List.length_replicate⟩)
noncomputable def z0l:=lk (α:=HK) [(58, .meet ⟨[(2, .pt 0 0),(3, .pt 1 0),(7, .v (.sl (.arr 4 (.int .u64)))),(8, .v (.int .i64)),(9, .v (.int .i64))],[(0, .box 97 [.v (.arr 4 (.int .u64))]),(1, .box 97 [.v (.arr 4 (.int .u64))])],2⟩),(14950, .meet ⟨[(2, .pt 0 0),(3, .pt 1 0),(5, .pt 2 0),(7, .v (.sl (.arr 4 (.int .u64)))),(8, .v (.int .i64)),(9, .v (.int .i64)),(13, .v (.int .i64))],[(0, .box 97 [.v (.arr 4 (.int .u64))]),(1, .box 97 [.v (.arr 4 (.int .u64))]),(2, .box 97 [.v (.arr 4 (.int .u64))])],3⟩)]
noncomputable abbrev z1b (nn:Nat):PF:=⟨[(.sl (.arr 4 (.int .u64)))],(.arr 4 (.int .u64)),fun t=>yw nn t⟩
set_option maxRecDepth 100000 in
theorem zfg (nn:Nat):qe 210 (z1b nn):=mk1 Tryz.func210 nn 0 [(0,[24,25])] [] [] [] itn z0l rn gn tn (by kernel_rfl) fun t=>by kernel_rfl
noncomputable def Zu (nn:Nat) (a0:jd) (a1:jd):Option jd:=J (fun(x1:Bool×jd×jd×jd)=>ifB x1.1 (some (false,0,0,false,⟨List.replicate 4 0,List.length_replicate⟩,⟨List.replicate 4 0,List.length_replicate⟩,())) (J (fun(x3:jd×jd×jd×jd)=>J (fun(x5:jd×jd)=>some x5.2) fun x6=>ifB (decide (x3.1.2.1=0)) (ja (yw nn [x3.1.2.2.2.2.1,x3.2.1.2.2.2.2.1]) fun x7=>x6 (x3.2.2.1,(x3.2.2.2.1,x3.2.2.2.2.1,x3.2.2.2.2.2.1,x3.2.2.2.2.2.2.1,x7,x3.2.2.2.2.2.2.2.2.1,()))) (x6 (x3.2.2.1,x3.2.2.2))) fun x4=>ifB x1.2.1.2.2.2.1 (ja (yw nn [x1.2.1.2.2.2.2.2.1,x1.2.2.1.2.2.2.2.2.1]) fun x8=>x4 (x1.2.1,x1.2.2.1,x1.2.2.2,(true,min (w64 (x1.2.1.2.1+x1.2.2.1.2.1)) 1099511627776,min (w64 (x1.2.1.2.2.1+x1.2.2.1.2.2.1)) 1099511627776,true,x1.2.1.2.2.2.2.1,x8,()))) (ja (yw nn [x1.2.1.2.2.2.2.2.1,x1.2.2.1.2.2.2.2.2.1]) fun x9=>x4 (x1.2.1,x1.2.2.1,x1.2.2.2,(true,min (w64 (x1.2.1.2.1+x1.2.2.1.2.1)) 1099511627776,min (w64 (x1.2.1.2.2.1+x1.2.2.1.2.2.1)) 1099511627776,x1.2.2.1.2.2.2.1,x1.2.1.2.2.2.2.1,x9,()))))) fun x2=>ja (some (!a0.1)) fun x10=>ifB x10 (x2 (true,a0,a1,(false,0,0,false,⟨List.replicate 4 0,List.length_replicate⟩,⟨List.replicate 4 0,List.length_replicate⟩,()))) (x2 (!a1.1,a0,a1,(false,0,0,false,⟨List.replicate 4 0,List.length_replicate⟩,⟨List.replicate 4 0,List.length_replicate⟩,())))
noncomputable def zu9:=lk (α:=HK) [(12, .meet ⟨[(2, .pt 0 0),(3, .pt 1 0),(4, .pt 2 0),(13, .v .bool)],[(0, .box 173 [.v je]),(1, .box 173 [.v je]),(2, .box 173 [.v je])],3⟩),(14, .meet ⟨[(2, .pt 0 0),(3, .pt 1 0),(4, .pt 2 0),(5, .pt 3 0)],[(0, .box 173 [.v je]),(1, .box 173 [.v je]),(2, .box 173 [.v je]),(3, .box 173 [.v je])],4⟩),(15, .meet ⟨[(4, .pt 0 0),(5, .pt 1 0)],[(0, .box 173 [.v je]),(1, .box 173 [.v je])],2⟩)]
noncomputable abbrev ztb (nn:Nat):PF:=⟨[je,je],je,fun t=>Zu nn (t.1) (t.2)⟩
set_option maxRecDepth 100000 in
theorem zkv (nn:Nat):qe 188 (ztb nn):=mk1 Tryz.func188 nn 0 [(0,[8])] [(0,[(39, .told (.arr 4 (.int .u64))),(49, .told (.arr 4 (.int .u64)))])] [] [] itn zu9 rn gn (tc (zfg nn) tn) (by kernel_rfl) fun t=>by kernel_rfl
noncomputable def J5 (nn:Nat) (a0:jd) (a1:jd):Option jd:=ifB (!a0.1) (some a1) (ifB (!a1.1) (some a0) (J (fun(x1:jd)=>some x1) fun x2=>ifB a0.2.2.2.1 (ja (yw nn [a0.2.2.2.2.1,a1.2.2.2.2.1]) fun x3=>ja (yw nn [a0.2.2.2.2.2.1,a1.2.2.2.2.2.1]) fun x4=>x2 (true,min a0.2.1 a1.2.1,max a0.2.2.1 a1.2.2.1,true,x3,x4,())) (ja (yw nn [a0.2.2.2.2.1,a1.2.2.2.2.1]) fun x5=>ja (yw nn [a0.2.2.2.2.2.1,a1.2.2.2.2.2.1]) fun x6=>x2 (true,min a0.2.1 a1.2.1,max a0.2.2.1 a1.2.2.1,a1.2.2.2.1,x5,x6,()))))
noncomputable def zt4:=lk (α:=HK) [(14, .meet ⟨[(4, .pt 0 0)],[(0, .box 173 [.v je])],1⟩)]
noncomputable abbrev zv0 (nn:Nat):PF:=⟨[je,je],je,fun t=>J5 nn (t.1) (t.2)⟩
set_option maxRecDepth 100000 in
theorem zmc (nn:Nat):qe 189 (zv0 nn):=mk1 Tryz.func189 nn 0 [] [(0,[(35, .told (.arr 4 (.int .u64))),(41, .told (.arr 4 (.int .u64)))])] [] [] itn zt4 rn gn (tc (zfg nn) tn) (by kernel_rfl) fun t=>by kernel_rfl
noncomputable def Qn (nn:Nat) (a0:jj) (a1:(List jd)):Option jd:=ifB (decide (a0.1=1)) (ifB (a0.2.1.l == (⟨List.replicate 4 0,List.length_replicate⟩:Arr 4 Int).l) (some (false,0,0,false,⟨List.replicate 4 0,List.length_replicate⟩,⟨List.replicate 4 0,List.length_replicate⟩,())) (some (true,1,1,false,a0.2.1,a0.2.1,()))) (ifB (decide (a0.1=3)) (ja (atL a1 0) fun x1=>ja (atL a1 1) fun x2=>ja (Zu nn x1 x2) fun x3=>some x3) (ifB (decide (a0.1=4)) (ja (atL a1 0) fun x4=>ja (atL a1 1) fun x5=>ja (J5 nn x4 x5) fun x6=>some x6) (ifB (decide (a0.1=7)) (ja (atL a1 0) fun x7=>ja (J5 nn (true,0,0,false,⟨List.replicate 4 0,List.length_replicate⟩,⟨List.replicate 4 0,List.length_replicate⟩,()) x7) fun x8=>some x8) (J (fun(x9:(List jd)×Bool×jj×jd×jd)=>ifB x9.2.1 (ja (atL x9.1 0) fun x11=>J (fun(x12:jj×jd×jd×jd)=>J (fun(x14:jd×jd)=>some x14.2) fun x15=>ifB (decide (x12.1.1=5)) (ja (J5 nn x12.2.2.1 x12.2.2.2) fun x16=>x15 (x12.2.1,x16)) (x15 (x12.2.1,x12.2.2.2))) fun x13=>ifB x11.2.2.2.1 (x13 (x9.2.2.1,x9.2.2.2.1,x9.2.2.2.2,(x11.1,x11.2.1,x11.2.2.1,true,x11.2.2.2.2.1,x11.2.2.2.2.2.1,()))) (x13 (x9.2.2.1,x9.2.2.2.1,x9.2.2.2.2,(x11.1,x11.2.1,x11.2.2.1,decide (0<x11.2.2.1),x11.2.2.2.2.1,x11.2.2.2.2.2.1,())))) (some x9.2.2.2.2)) fun x10=>ja (some (decide (a0.1=6))) fun x17=>ifB x17 (x10 (a1,x17,a0,(false,0,0,false,⟨List.replicate 4 0,List.length_replicate⟩,⟨List.replicate 4 0,List.length_replicate⟩,()),(true,0,0,false,⟨List.replicate 4 0,List.length_replicate⟩,⟨List.replicate 4 0,List.length_replicate⟩,()))) (ja (some (decide (a0.1=5))) fun x18=>x10 (a1,x18,a0,(false,0,0,false,⟨List.replicate 4 0,List.length_replicate⟩,⟨List.replicate 4 0,List.length_replicate⟩,()),(true,0,0,false,⟨List.replicate 4 0,List.length_replicate⟩,⟨List.replicate 4 0,List.length_replicate⟩,())))))))
noncomputable def zln:=lk (α:=HK) [(15103, .meet ⟨[(1, .v (.sl je)),(2, .pt 0 0),(4, .pt 1 0),(5, .pt 2 0),(47, .v .bool)],[(0, .box 126 [.v Y_api_Rx]),(1, .box 173 [.v je]),(2, .box 173 [.v je])],3⟩),(241658, .meet ⟨[(2, .pt 0 0),(4, .pt 1 0),(5, .pt 2 0),(6, .pt 3 0)],[(0, .box 126 [.v Y_api_Rx]),(1, .box 173 [.v je]),(2, .box 173 [.v je]),(3, .box 173 [.v je])],4⟩),(241659, .meet ⟨[(4, .pt 0 0),(6, .pt 1 0)],[(0, .box 173 [.v je]),(1, .box 173 [.v je])],2⟩)]
noncomputable abbrev zlr (nn:Nat):PF:=⟨[Y_api_Rx,(.sl je)],je,fun t=>Qn nn (t.1) (t.2)⟩
set_option maxRecDepth 100000 in
theorem zf2 (nn:Nat):qe 187 (zlr nn):=mk1 Tryz.func187 nn 0 [(0,[48,49])] [] [] [] itn zln rn gn (tc (zkv nn) (tc (zmc nn) tn)) (by kernel_rfl) fun t=>by kernel_rfl
noncomputable def Yj (nn:Nat) (a0:(List jj)):Option jd:=J (fun(x1:jd×jd)=>some x1.2) fun x2=>ja (Vz nn a0) fun x3=>ifB (decide (¬ x3=0)) (x2 ((false,0,0,false,⟨List.replicate 4 0,List.length_replicate⟩,⟨List.replicate 4 0,List.length_replicate⟩,()),(false,0,0,false,⟨List.replicate 4 0,List.length_replicate⟩,⟨List.replicate 4 0,List.length_replicate⟩,()))) (jt (fun(x4:(List jj)×Int×Int×jd×(List jd)) x5=>ifB (decide (x4.2.2.1<x4.2.1)) (ja (atL x4.1 x4.2.2.1) fun x6=>J (fun(x7:Int×(List jj)×Int×Int×jd×(List jd)×jj)=>ja (some (w64 ((x7.2.2.2.2.2.1.length:Int)-x7.1))) fun x9=>ja (z9r x7.2.2.2.2.2.1 x9) fun x10=>ja (zx nn (x7.2.2.2.2.2.1.drop x10)) fun x11=>ja (Qn nn x7.2.2.2.2.2.2 x11) fun x12=>ja (Zi x7.2.2.2.2.2.1 x9) fun x13=>ja (apO 96 x13 [x12]) fun x14=>ja (some (w64 (x7.2.2.2.1+1))) fun x15=>x5 (x7.2.1,x7.2.2.1,x15,x7.2.2.2.2.1,x14)) fun x8=>J (fun(x16:Int×(List jj)×Int×Int×Int×Bool×jd×(List jd)×jj)=>ifB x16.2.2.2.2.2.1 (x8 (2,x16.2.1,x16.2.2.1,x16.2.2.2.1,x16.2.2.2.2.2.2.1,x16.2.2.2.2.2.2.2.1,x16.2.2.2.2.2.2.2.2)) (J (fun(x18:Int×(List jj)×Int×Int×Bool×jd×(List jd)×jj)=>ifB x18.2.2.2.2.1 (x8 (1,x18.2.1,x18.2.2.1,x18.2.2.2.1,x18.2.2.2.2.2.1,x18.2.2.2.2.2.2.1,x18.2.2.2.2.2.2.2)) (x8 (x18.1,x18.2.1,x18.2.2.1,x18.2.2.2.1,x18.2.2.2.2.2.1,x18.2.2.2.2.2.2.1,x18.2.2.2.2.2.2.2))) fun x19=>ja (some (decide (x16.2.2.2.2.1=5))) fun x20=>ifB x20 (x19 (x16.1,x16.2.1,x16.2.2.1,x16.2.2.2.1,x20,x16.2.2.2.2.2.2.1,x16.2.2.2.2.2.2.2.1,x16.2.2.2.2.2.2.2.2)) (ja (some (decide (x16.2.2.2.2.1=6))) fun x21=>ifB x21 (x19 (x16.1,x16.2.1,x16.2.2.1,x16.2.2.2.1,x21,x16.2.2.2.2.2.2.1,x16.2.2.2.2.2.2.2.1,x16.2.2.2.2.2.2.2.2)) (ja (some (decide (x16.2.2.2.2.1=7))) fun x22=>x19 (x16.1,x16.2.1,x16.2.2.1,x16.2.2.2.1,x22,x16.2.2.2.2.2.2.1,x16.2.2.2.2.2.2.2.1,x16.2.2.2.2.2.2.2.2))))) fun x17=>ja (some (decide (x6.1=3))) fun x23=>ifB x23 (x17 (0,x4.1,x4.2.1,x4.2.2.1,x6.1,x23,x4.2.2.2.1,x4.2.2.2.2,x6)) (ja (some (decide (x6.1=4))) fun x24=>x17 (0,x4.1,x4.2.1,x4.2.2.1,x6.1,x24,x4.2.2.2.1,x4.2.2.2.2,x6))) (ja (qz x4.2.2.2.2.length 0) fun x25=>ja (atL x4.2.2.2.2 x25) fun x26=>x2 ((false,0,0,false,⟨List.replicate 4 0,List.length_replicate⟩,⟨List.replicate 4 0,List.length_replicate⟩,()),x26))) nn (a0,(a0.length:Int),0,(false,0,0,false,⟨List.replicate 4 0,List.length_replicate⟩,⟨List.replicate 4 0,List.length_replicate⟩,()),[]))
noncomputable def zq9:=lk (α:=HK) [(6, .meet ⟨[(2, .pt 0 0),(3, .pt 1 0)],[(0, .box 173 [.v je]),(1, .box 173 [.v je])],2⟩)]
noncomputable def zh7:=lk (α:=HK) [(250, .meet ⟨[(1, .fn 187 [] []),(4, .pt 0 0),(7, .own 1),(17, .v (.sl Y_api_Rx)),(18, .v (.int .i64)),(19, .v (.int .i64))],[(0, .box 173 [.v je]),(1, .row 173 je)],2⟩),(128205, .meet ⟨[(1, .fn 187 [] []),(4, .pt 0 0),(7, .own 1),(9, .pt 2 0),(10, .v (.int .i64)),(17, .v (.sl Y_api_Rx)),(18, .v (.int .i64)),(19, .v (.int .i64))],[(0, .box 173 [.v je]),(1, .row 173 je),(2, .box 126 [.v Y_api_Rx])],3⟩),(256410, .meet ⟨[(1, .fn 187 [] []),(4, .pt 0 0),(7, .own 1),(9, .pt 2 0),(10, .v (.int .i64)),(17, .v (.sl Y_api_Rx)),(18, .v (.int .i64)),(19, .v (.int .i64)),(24, .v (.int .i64)),(25, .v .bool)],[(0, .box 173 [.v je]),(1, .row 173 je),(2, .box 126 [.v Y_api_Rx])],3⟩),(1025643, .meet ⟨[(1, .fn 187 [] []),(4, .pt 0 0),(7, .own 1),(9, .pt 2 0),(10, .v (.int .i64)),(17, .v (.sl Y_api_Rx)),(18, .v (.int .i64)),(19, .v (.int .i64)),(28, .v .bool)],[(0, .box 173 [.v je]),(1, .row 173 je),(2, .box 126 [.v Y_api_Rx])],3⟩)]
noncomputable abbrev zqe (nn:Nat):PF:=⟨[(.sl Y_api_Rx)],je,fun t=>Yj nn t⟩
set_option maxRecDepth 100000 in
theorem zi3 (nn:Nat):qe 147 (zqe nn):=mk1 Tryz.func147 nn 9 [(1,[26,27,29,30,31,35,49])] [(1,[(47, .told je)])] [] [1001157] (itc 650186 Tryz.func186 zh7 1 [] itn (by kernel_rfl)) zq9 rn (gc (zf nn) gn) (tc (zbg nn) (tc (zf2 nn) tn)) (by kernel_rfl) fun t=>by kernel_rfl
noncomputable def Ve (nn:Nat) (a0:(List jj)):Option Int:=ja (Yj nn a0) fun x1=>ifB (!x1.1) (some (-1)) (some x1.2.1)
noncomputable def zh0:=lk (α:=HK) []
noncomputable abbrev zgo (nn:Nat):PF:=⟨[(.sl Y_api_Rx)],(.int .i64),fun t=>Ve nn t⟩
set_option maxRecDepth 100000 in
theorem zdv (nn:Nat):qe 99 (zgo nn):=mk1 Tryz.func99 nn 0 [] [] [] [] itn zh0 rn gn (tc (zi3 nn) tn) (by kernel_rfl) fun t=>by kernel_rfl
noncomputable def Je (nn:Nat) (a0:(List jj)):Option Bool:=ja (Ve nn a0) fun x1=>some (decide (x1=0))
noncomputable def zhq:=lk (α:=HK) []
noncomputable abbrev zgv (nn:Nat):PF:=⟨[(.sl Y_api_Rx)], .bool,fun t=>Je nn t⟩
set_option maxRecDepth 100000 in
theorem zeh (nn:Nat):qe 61 (zgv nn):=mk1 Tryz.func61 nn 0 [] [] [] [] itn zhq rn gn (tc (zdv nn) tn) (by kernel_rfl) fun t=>by kernel_rfl
noncomputable def J0 (nn:Nat) (a0:(Option y5)):Option jk:=J (fun(x1:jk)=>some x1) fun x2=>ja (a0) fun x3=>jt (fun(x4:Int×Int×Int×Int×(Option y5)×jk) x5=>ifB (decide (x4.2.2.2.1<x4.2.2.1)) (ja (x4.2.2.2.2.1) fun x6=>ja (atL x6.1.1 x4.2.2.2.1) fun x7=>ja (Je nn x7.2.1) fun x8=>ifB (!(!x8)) (x2 (x4.1,x4.2.2.2.1,x4.2.1,())) (ja (some (w64 (x4.2.2.2.1+1))) fun x9=>x5 (x4.1,x4.2.1,x4.2.2.1,x9,x4.2.2.2.2.1,x4.2.2.2.2.2))) (x2 (0,0,0,()))) nn (10,0,(x3.1.1.length:Int),0,a0,(0,0,0,()))
noncomputable def zh8:=lk (α:=HK) [(6, .meet ⟨[(2, .pt 0 0)],[(0, .box 36 [.v jl])],1⟩)]
noncomputable def zfb:=lk (α:=HK) [(26, .meet ⟨[(1, .v (.int .i64)),(2, .v (.int .i64)),(3, .fn 60 [] [.pt 0 0]),(8, .pt 1 0),(10, .v (.int .i64)),(11, .v (.int .i64))],[(0, .box 67 [.v (.ref y6)]),(1, .box 36 [.v jl])],2⟩)]
noncomputable def ze9:=lk (α:=HK) []
noncomputable abbrev zjq (nn:Nat):PF:=⟨[(.ref y6)],jl,fun t=>J0 nn t⟩
set_option maxRecDepth 100000 in
theorem ze4 (nn:Nat):qe 58 (zjq nn):=mk1 Tryz.func58 nn 9 [(1,[22])] [] [] [] (itc 710059 Tryz.func59 zfb 1 [] (itc 10002580060 Tryz.func60 ze9 2 [] itn (by kernel_rfl)) (by kernel_rfl)) zh8 rn gn (tc (zeh nn) tn) (by kernel_rfl) fun t=>by kernel_rfl
noncomputable def J2 (nn:Nat) (a0:(Option y5)):Option jk:=ja (a0) fun x1=>ja (yf nn x1.1) fun x2=>J (fun(x3:jk)=>some x3) fun x4=>jt (fun(x5:Int×Int×Int×Int×(List Bool)×jk) x6=>ifB (decide (x5.2.2.2.1<x5.2.2.1)) (ja (atL x5.2.2.2.2.1 x5.2.2.2.1) fun x7=>ifB (!x7) (x4 (x5.1,x5.2.2.2.1,x5.2.1,())) (ja (some (w64 (x5.2.2.2.1+1))) fun x8=>x6 (x5.1,x5.2.1,x5.2.2.1,x8,x5.2.2.2.2.1,x5.2.2.2.2.2))) (x4 (0,0,0,()))) nn (13,0,(x2.length:Int),0,x2,(0,0,0,()))
noncomputable def zjj:=lk (α:=HK) [(14, .meet ⟨[(2, .pt 0 0)],[(0, .box 36 [.v jl])],1⟩)]
noncomputable def zew:=lk (α:=HK) [(26, .meet ⟨[(1, .v (.int .i64)),(2, .v (.int .i64)),(3, .fn 64 [] [.pt 0 0]),(8, .pt 1 0),(10, .v (.int .i64)),(11, .v (.int .i64))],[(0, .box 42 [.v (.sl .bool)]),(1, .box 36 [.v jl])],2⟩)]
noncomputable def zey:=lk (α:=HK) []
noncomputable abbrev zja (nn:Nat):PF:=⟨[(.ref y6)],jl,fun t=>J2 nn t⟩
set_option maxRecDepth 100000 in
theorem ze5 (nn:Nat):qe 62 (zja nn):=mk1 Tryz.func62 nn 9 [(1,[22])] [] [] [] (itc 1310059 Tryz.func59 zew 1 [] (itc 10002580064 Tryz.func64 zey 2 [] itn (by kernel_rfl)) (by kernel_rfl)) zjj rn gn (tc (zas nn) tn) (by kernel_rfl) fun t=>by kernel_rfl
noncomputable def Q8 (nn:Nat) (a0:jf) (a1:(List Bool)):Option Bool:=J (fun(x1:Bool)=>some x1) fun x2=>ja (some (!a0.1)) fun x3=>ifB x3 (x2 true) (ja (atL a1 a0.2.1) fun x4=>x2 x4)
noncomputable def znm:=lk (α:=HK) [(6, .meet ⟨[(4, .v .bool)],[],0⟩)]
noncomputable abbrev zpx (nn:Nat):PF:=⟨[Y_api_Item,(.sl .bool)], .bool,fun t=>Q8 nn (t.1) (t.2)⟩
set_option maxRecDepth 100000 in
theorem zg0 (nn:Nat):qe 103 (zpx nn):=mk1 Tryz.func103 nn 0 [(0,[7])] [] [] [] itn znm rn gn tn (by kernel_rfl) fun t=>by kernel_rfl
noncomputable def Q7 (nn:Nat) (a0:jb):Option (List Bool):=J (fun(x1:(List Bool))=>some x1) fun x2=>ja (qm nn a0) fun x3=>ifB (!x3) (x2 []) (ja (some (a0.2.1.length:Int)) fun x4=>ja (mkO 1 x4) fun x5=>jt (fun(x6:(List jh)×Bool×(List Bool)) x7=>ifB x6.2.1 (jt (fun(x8:(List jh)×Bool×(List jh)×Int×Int×(List Bool)) x9=>ifB (decide (x8.2.2.2.2.1<x8.2.2.2.1)) (ja (atL x8.2.2.1 x8.2.2.2.2.1) fun x10=>J (fun(x11:(List jh)×Bool×(List jh)×Int×Int×(List Bool))=>ja (some (w64 (x11.2.2.2.2.1+1))) fun x13=>x9 (x11.1,x11.2.1,x11.2.2.1,x11.2.2.2.1,x13,x11.2.2.2.2.2)) fun x12=>ja (qz x8.2.2.2.2.2.length x10.1) fun x14=>ja (atL x8.2.2.2.2.2 x14) fun x15=>ifB x15 (x12 (x8.1,x8.2.1,x8.2.2.1,x8.2.2.2.1,x8.2.2.2.2.1,x8.2.2.2.2.2)) (jt (fun(x16:(List jf)×Int×Int×(List Bool)×jh) x17=>ifB (decide (x16.2.2.1<x16.2.1)) (ja (atL x16.1 x16.2.2.1) fun x18=>ja (Q8 nn x18 x16.2.2.2.1) fun x19=>ifB (!x19) (x12 (x8.1,x8.2.1,x8.2.2.1,x8.2.2.2.1,x8.2.2.2.2.1,x16.2.2.2.1)) (ja (some (w64 (x16.2.2.1+1))) fun x20=>x17 (x16.1,x16.2.1,x20,x16.2.2.2.1,x16.2.2.2.2))) (ja (qz x16.2.2.2.1.length x16.2.2.2.2.1) fun x21=>ja (Zg x16.2.2.2.1 x21 true) fun x22=>x12 (x8.1,true,x8.2.2.1,x8.2.2.2.1,x8.2.2.2.2.1,x22))) nn (x10.2.1,(x10.2.1.length:Int),0,x8.2.2.2.2.2,x10))) (x7 (x8.1,x8.2.1,x8.2.2.2.2.2))) nn (x6.1,false,x6.1,(x6.1.length:Int),0,x6.2.2)) (x2 x6.2.2)) nn (a0.2.2.1,true,(List.replicate x5 false)))
noncomputable def zv2:=lk (α:=HK) [(6, .meet ⟨[(2, .own 0)],[(0, .row 4 .bool)],1⟩)]
noncomputable def zlk:=lk (α:=HK) []
noncomputable def zmn:=lk (α:=HK) [(6, .meet ⟨[(0, .v (.sl Y_api_Prod)),(1, .fn 148 [] [.pt 0 0, .pt 2 0]),(4, .v .bool)],[(0, .box 42 [.own 1]),(1, .row 4 .bool),(2, .box 142 [.fn 103 [] []])],3⟩),(406, .meet ⟨[(0, .v (.sl Y_api_Prod)),(1, .fn 148 [] [.pt 0 0, .pt 2 0]),(4, .v .bool),(8, .v (.sl Y_api_Prod)),(9, .v (.int .i64)),(10, .v (.int .i64))],[(0, .box 42 [.own 1]),(1, .row 4 .bool),(2, .box 142 [.fn 103 [] []])],3⟩),(26009, .meet ⟨[(0, .v (.sl Y_api_Prod)),(1, .fn 148 [] [.pt 0 0, .pt 2 0]),(4, .v .bool),(8, .v (.sl Y_api_Prod)),(9, .v (.int .i64)),(10, .v (.int .i64))],[(0, .box 42 [.own 1]),(1, .row 4 .bool),(2, .box 142 [.fn 103 [] []])],3⟩)]
noncomputable def zmk:=lk (α:=HK) [(58, .meet ⟨[(1, .pt 0 0),(2, .pt 2 0),(3, .pt 3 0),(13, .v (.sl Y_api_Item)),(14, .v (.int .i64)),(15, .v (.int .i64))],[(0, .box 42 [.own 1]),(1, .row 4 .bool),(2, .box 142 [.fn 103 [] []]),(3, .box 66 [.v Y_api_Prod])],4⟩)]
noncomputable abbrev zvq (nn:Nat):FF:=⟨[Y_api_Grammar],4, .bool,fun t=>Q7 nn t⟩
set_option maxRecDepth 100000 in
theorem zl4 (nn:Nat):FFOk 66 (zvq nn):=mk2 Tryz.func66 nn 9 [(1,[11]),(2,[20]),(3,[24])] [] [] [] (itc 650102 Tryz.func102 zlk 1 [] (itc 10002590100 Tryz.func100 zmn 2 [] (itc 20003860148 Tryz.func148 zmk 3 [] itn (by kernel_rfl)) (by kernel_rfl)) (by kernel_rfl)) zv2 rn gn (tc (vu nn) (tc (zg0 nn) tn)) (by kernel_rfl) fun t=>by kernel_rfl
noncomputable abbrev zub (nn:Nat):PF:=⟨[Y_api_Grammar],(.sl .bool),fun t=>Q7 nn t⟩
theorem zk9 (nn:Nat):qe 66 (zub nn):=(zl4 nn).pure
noncomputable def J3 (nn:Nat) (a0:(Option y5)):Option jk:=ja (a0) fun x1=>ja (Q7 nn x1.1) fun x2=>J (fun(x3:jk)=>some x3) fun x4=>jt (fun(x5:Int×Int×Int×Int×(List Bool)×jk) x6=>ifB (decide (x5.2.2.2.1<x5.2.2.1)) (ja (atL x5.2.2.2.2.1 x5.2.2.2.1) fun x7=>ifB (!x7) (x4 (x5.1,x5.2.2.2.1,x5.2.1,())) (ja (some (w64 (x5.2.2.2.1+1))) fun x8=>x6 (x5.1,x5.2.1,x5.2.2.1,x8,x5.2.2.2.2.1,x5.2.2.2.2.2))) (x4 (0,0,0,()))) nn (14,0,(x2.length:Int),0,x2,(0,0,0,()))
noncomputable def zi9:=lk (α:=HK) [(14, .meet ⟨[(2, .pt 0 0)],[(0, .box 36 [.v jl])],1⟩)]
noncomputable def zfc:=lk (α:=HK) [(26, .meet ⟨[(1, .v (.int .i64)),(2, .v (.int .i64)),(3, .fn 67 [] [.pt 0 0]),(8, .pt 1 0),(10, .v (.int .i64)),(11, .v (.int .i64))],[(0, .box 42 [.v (.sl .bool)]),(1, .box 36 [.v jl])],2⟩)]
noncomputable def zev:=lk (α:=HK) []
noncomputable abbrev zi4 (nn:Nat):PF:=⟨[(.ref y6)],jl,fun t=>J3 nn t⟩
set_option maxRecDepth 100000 in
theorem zfa (nn:Nat):qe 65 (zi4 nn):=mk1 Tryz.func65 nn 9 [(1,[22])] [] [] [] (itc 1310059 Tryz.func59 zfc 1 [] (itc 10002580067 Tryz.func67 zev 2 [] itn (by kernel_rfl)) (by kernel_rfl)) zi9 rn gn (tc (zk9 nn) tn) (by kernel_rfl) fun t=>by kernel_rfl
noncomputable def Jx (nn:Nat) (a0:(Option y5)):Option jk:=ja (a0) fun x1=>ja (Jb nn x1.1) fun x2=>some x2.1
noncomputable def zju:=lk (α:=HK) []
noncomputable abbrev zjz (nn:Nat):PF:=⟨[(.ref y6)],jl,fun t=>Jx nn t⟩
set_option maxRecDepth 100000 in
theorem zfe (nn:Nat):qe 68 (zjz nn):=mk1 Tryz.func68 nn 0 [] [] [] [] itn zju rn gn (tc (zh9 nn) tn) (by kernel_rfl) fun t=>by kernel_rfl
noncomputable def V4 (nn:Nat) (a0:Int):Option Bool:=some (decide (¬ a0=a0))
noncomputable def zjr:=lk (α:=HK) []
noncomputable abbrev zil (nn:Nat):PF:=⟨[(.int .i64)], .bool,fun t=>V4 nn t⟩
set_option maxRecDepth 100000 in
theorem zex (nn:Nat):qe 231 (zil nn):=mk1 Tryz.func231 nn 0 [] [] [] [] itn zjr rn gn tn (by kernel_rfl) fun t=>by kernel_rfl
noncomputable def Qp (nn:Nat) (a0:Int) (a1:Int):Option Bool:=J (fun(x1:Bool)=>some x1) fun x2=>ja (V4 nn a0) fun x3=>ifB x3 (ja (V4 nn a1) fun x4=>ifB (!x4) (x2 true) (x2 (decide (a0<a1)))) (x2 (decide (a0<a1)))
noncomputable def zk6:=lk (α:=HK) [(6, .meet ⟨[(4, .v .bool)],[],0⟩)]
noncomputable abbrev zml (nn:Nat):PF:=⟨[(.int .i64),(.int .i64)], .bool,fun t=>Qp nn (t.1) (t.2)⟩
set_option maxRecDepth 100000 in
theorem zf0 (nn:Nat):qe 217 (zml nn):=mk1 Tryz.func217 nn 0 [] [] [] [] itn zk6 rn gn (tc (zex nn) tn) (by kernel_rfl) fun t=>by kernel_rfl
noncomputable def vq (nn:Nat) (a0:(List Int)) (a1:(List Int)):Option (List Int):=ja (small7 a0 a0) fun x1=>ja (apO 8 x1 a1) fun x2=>ja (small7 x2 (Vy x2)) fun x3=>ja (small7 x3 (Jj x3)) fun x4=>some x4
noncomputable def zu3:=lk (α:=HK) []
noncomputable abbrev zut (nn:Nat):FF:=⟨[(.sl (.int .i64)),(.sl (.int .i64))],3,(.int .i64),fun t=>vq nn (t.1) (t.2)⟩
set_option maxRecDepth 100000 in
theorem zk4 (nn:Nat):FFOk 215 (zut nn):=mk2 Tryz.func215 nn 0 [] [] [] [] itn zu3 rn gn tn (by kernel_rfl) fun t=>by kernel_rfl
noncomputable abbrev zs1 (nn:Nat):PF:=⟨[(.sl (.int .i64)),(.sl (.int .i64))],(.sl (.int .i64)),fun t=>vq nn (t.1) (t.2)⟩
theorem zlz (nn:Nat):qe 215 (zs1 nn):=(zk4 nn).pure
noncomputable def Jk (nn:Nat) (a0:(List jj)):Option (Option zp3):=ja (Vz nn a0) fun x1=>ifB (decide (¬ x1=0)) (some none) (jt (fun(x2:(List jj)×Int×Int×Bool×Int×(List (Arr 4 Int))×(List (List Int))×(List Int)×(List Int)×(List jo)) x3=>ifB (decide (x2.2.2.1<x2.2.1)) (ja (atL x2.1 x2.2.2.1) fun x4=>J (fun(x5:(List jj)×Int×Int×Bool×Int×jo×(List (Arr 4 Int))×(List (List Int))×(List Int)×(List Int)×(List jo))=>ja (apO 64 x5.2.2.2.2.2.2.2.2.2.2 [x5.2.2.2.2.2.1]) fun x7=>ja (some (w64 (x5.2.2.1+1))) fun x8=>x3 (x5.1,x5.2.1,x8,x5.2.2.2.1,x5.2.2.2.2.1,x5.2.2.2.2.2.2.1,x5.2.2.2.2.2.2.2.1,x5.2.2.2.2.2.2.2.2.1,x5.2.2.2.2.2.2.2.2.2.1,x7)) fun x6=>ifB (decide (x4.1=1)) (ja (some (x2.2.2.2.2.2.1.length:Int)) fun x9=>ja (apO 32 x2.2.2.2.2.2.1 [x4.2.1]) fun x10=>ja (apO 24 x2.2.2.2.2.2.2.1 [[]]) fun x11=>x6 (x2.1,x2.2.1,x2.2.2.1,x2.2.2.2.1,x2.2.2.2.2.1,(([x9],[x9],false,()),1,()),x10,x11,x2.2.2.2.2.2.2.2.1,x2.2.2.2.2.2.2.2.2.1,x2.2.2.2.2.2.2.2.2.2)) (ifB (decide (x4.1=2)) (x6 (x2.1,x2.2.1,x2.2.2.1,x2.2.2.2.1,x2.2.2.2.2.1,(([],[],true,()),0,()),x2.2.2.2.2.2.1,x2.2.2.2.2.2.2.1,x2.2.2.2.2.2.2.2.1,x2.2.2.2.2.2.2.2.2.1,x2.2.2.2.2.2.2.2.2.2)) (ifB (decide (x4.1=3)) (ja (qz x2.2.2.2.2.2.2.2.2.2.length (w64 ((x2.2.2.2.2.2.2.2.2.2.length:Int)-1))) fun x12=>ja (atL x2.2.2.2.2.2.2.2.2.2 x12) fun x13=>ja (Zi x2.2.2.2.2.2.2.2.2.2 (w64 ((x2.2.2.2.2.2.2.2.2.2.length:Int)-1))) fun x14=>ja (qz x14.length (w64 ((x14.length:Int)-1))) fun x15=>ja (atL x14 x15) fun x16=>ja (Zi x14 (w64 ((x14.length:Int)-1))) fun x17=>jt (fun(x18:(List Int)×(List Int)×Int×Int×Bool×Int×(List (Arr 4 Int))×(List (List Int))×(List Int)×(List Int)) x19=>ifB (decide (x18.2.2.2.1<x18.2.2.1)) (ja (atL x18.2.1 x18.2.2.2.1) fun x20=>ja (qz x18.2.2.2.2.2.2.2.1.length x20) fun x21=>ja (atL x18.2.2.2.2.2.2.2.1 x21) fun x22=>ja (vq nn x22 x18.1) fun x23=>ja (qz x18.2.2.2.2.2.2.2.1.length x20) fun x24=>ja (Zg x18.2.2.2.2.2.2.2.1 x24 x23) fun x25=>ja (some (w64 (x18.2.2.2.1+1))) fun x26=>x19 (x18.1,x18.2.1,x18.2.2.1,x26,x18.2.2.2.2.1,x18.2.2.2.2.2.1,x18.2.2.2.2.2.2.1,x25,x18.2.2.2.2.2.2.2.2.1,x18.2.2.2.2.2.2.2.2.2)) (J (fun(x27:Bool×Int×(List (Arr 4 Int))×(List (List Int))×(List Int)×(List Int)×jo×jo×Bool×Int×jo×(List Int)×(List Int))=>J (fun(x29:Bool×Int×(List (Arr 4 Int))×(List (List Int))×(List Int)×(List Int)×jo×jo×Bool×Int×jo×(List Int)×(List Int))=>J (fun(x31:Bool×Int×(List (Arr 4 Int))×(List (List Int))×(List Int)×(List Int)×Bool×Int×jo×(List Int)×(List Int))=>x6 (x2.1,x2.2.1,x2.2.2.1,x31.1,x31.2.1,x31.2.2.2.2.2.2.2.2.1,x31.2.2.1,x31.2.2.2.1,x31.2.2.2.2.1,x31.2.2.2.2.2.1,x17)) fun x32=>ifB x29.2.2.2.2.2.2.2.1.1.2.2.1 (ja (vq nn x29.2.2.2.2.2.2.1.1.2.1 x29.2.2.2.2.2.2.2.1.1.2.1) fun x33=>x32 (x29.1,x29.2.1,x29.2.2.1,x29.2.2.2.1,x29.2.2.2.2.1,x29.2.2.2.2.2.1,x29.2.2.2.2.2.2.2.2.1,x29.2.2.2.2.2.2.2.2.2.1,((x29.2.2.2.2.2.2.2.2.2.2.1.1.1,x33,x29.2.2.2.2.2.2.2.2.2.2.1.1.2.2.1,()),x29.2.2.2.2.2.2.2.2.2.2.1.2.1,()),x29.2.2.2.2.2.2.2.2.2.2.2.1,x29.2.2.2.2.2.2.2.2.2.2.2.2)) (x32 (x29.1,x29.2.1,x29.2.2.1,x29.2.2.2.1,x29.2.2.2.2.1,x29.2.2.2.2.2.1,x29.2.2.2.2.2.2.2.2.1,x29.2.2.2.2.2.2.2.2.2.1,x29.2.2.2.2.2.2.2.2.2.2.1,x29.2.2.2.2.2.2.2.2.2.2.2.1,x29.2.2.2.2.2.2.2.2.2.2.2.2))) fun x30=>ifB x27.2.2.2.2.2.2.1.1.2.2.1 (ja (vq nn x27.2.2.2.2.2.2.1.1.1 x27.2.2.2.2.2.2.2.1.1.1) fun x34=>x30 (x27.1,x27.2.1,x27.2.2.1,x27.2.2.2.1,x27.2.2.2.2.1,x27.2.2.2.2.2.1,x27.2.2.2.2.2.2.1,x27.2.2.2.2.2.2.2.1,x27.2.2.2.2.2.2.2.2.1,x27.2.2.2.2.2.2.2.2.2.1,((x34,x27.2.2.2.2.2.2.2.2.2.2.1.1.2.1,x27.2.2.2.2.2.2.2.2.2.2.1.1.2.2.1,()),x27.2.2.2.2.2.2.2.2.2.2.1.2.1,()),x27.2.2.2.2.2.2.2.2.2.2.2.1,x27.2.2.2.2.2.2.2.2.2.2.2.2)) (x30 (x27.1,x27.2.1,x27.2.2.1,x27.2.2.2.1,x27.2.2.2.2.1,x27.2.2.2.2.2.1,x27.2.2.2.2.2.2.1,x27.2.2.2.2.2.2.2.1,x27.2.2.2.2.2.2.2.2.1,x27.2.2.2.2.2.2.2.2.2.1,x27.2.2.2.2.2.2.2.2.2.2.1,x27.2.2.2.2.2.2.2.2.2.2.2.1,x27.2.2.2.2.2.2.2.2.2.2.2.2))) fun x28=>ifB x16.1.2.2.1 (x28 (x18.2.2.2.2.1,x18.2.2.2.2.2.1,x18.2.2.2.2.2.2.1,x18.2.2.2.2.2.2.2.1,x18.2.2.2.2.2.2.2.2.1,x18.2.2.2.2.2.2.2.2.2,x16,x13,false,0,((x16.1.1,x13.1.2.1,x13.1.2.2.1,()),w64 (x16.2.1+x13.2.1),()),[],[])) (x28 (x18.2.2.2.2.1,x18.2.2.2.2.2.1,x18.2.2.2.2.2.2.1,x18.2.2.2.2.2.2.2.1,x18.2.2.2.2.2.2.2.2.1,x18.2.2.2.2.2.2.2.2.2,x16,x13,false,0,((x16.1.1,x13.1.2.1,false,()),w64 (x16.2.1+x13.2.1),()),[],[])))) nn (x13.1.1,x16.1.2.1,(x16.1.2.1.length:Int),0,x2.2.2.2.1,x2.2.2.2.2.1,x2.2.2.2.2.2.1,x2.2.2.2.2.2.2.1,x2.2.2.2.2.2.2.2.1,x2.2.2.2.2.2.2.2.2.1)) (ifB (decide (x4.1=4)) (ja (qz x2.2.2.2.2.2.2.2.2.2.length (w64 ((x2.2.2.2.2.2.2.2.2.2.length:Int)-1))) fun x35=>ja (atL x2.2.2.2.2.2.2.2.2.2 x35) fun x36=>ja (Zi x2.2.2.2.2.2.2.2.2.2 (w64 ((x2.2.2.2.2.2.2.2.2.2.length:Int)-1))) fun x37=>ja (qz x37.length (w64 ((x37.length:Int)-1))) fun x38=>ja (atL x37 x38) fun x39=>ja (Zi x37 (w64 ((x37.length:Int)-1))) fun x40=>J (fun(x41:(List jj)×Int×Int×Bool×Int×jo×(List (Arr 4 Int))×(List (List Int))×(List Int)×(List Int)×(List jo))=>x6 (x41.1,x41.2.1,x41.2.2.1,x41.2.2.2.1,x41.2.2.2.2.1,x41.2.2.2.2.2.1,x41.2.2.2.2.2.2.1,x41.2.2.2.2.2.2.2.1,x41.2.2.2.2.2.2.2.2.1,x41.2.2.2.2.2.2.2.2.2.1,x41.2.2.2.2.2.2.2.2.2.2)) fun x42=>ja (vq nn x39.1.1 x36.1.1) fun x43=>ja (vq nn x39.1.2.1 x36.1.2.1) fun x44=>ifB x39.1.2.2.1 (x42 (x2.1,x2.2.1,x2.2.2.1,x2.2.2.2.1,x2.2.2.2.2.1,((x43,x44,true,()),w64 (x39.2.1+x36.2.1),()),x2.2.2.2.2.2.1,x2.2.2.2.2.2.2.1,x2.2.2.2.2.2.2.2.1,x2.2.2.2.2.2.2.2.2.1,x40)) (x42 (x2.1,x2.2.1,x2.2.2.1,x2.2.2.2.1,x2.2.2.2.2.1,((x43,x44,x36.1.2.2.1,()),w64 (x39.2.1+x36.2.1),()),x2.2.2.2.2.2.1,x2.2.2.2.2.2.2.1,x2.2.2.2.2.2.2.2.1,x2.2.2.2.2.2.2.2.2.1,x40))) (ja (qz x2.2.2.2.2.2.2.2.2.2.length (w64 ((x2.2.2.2.2.2.2.2.2.2.length:Int)-1))) fun x45=>ja (atL x2.2.2.2.2.2.2.2.2.2 x45) fun x46=>ja (Zi x2.2.2.2.2.2.2.2.2.2 (w64 ((x2.2.2.2.2.2.2.2.2.2.length:Int)-1))) fun x47=>J (fun(x48:(List jj)×Int×Int×Bool×Int×jj×jo×(List (Arr 4 Int))×(List (List Int))×(List Int)×(List Int)×(List jo))=>J (fun(x50:(List jj)×Int×Int×Bool×Int×jo×(List (Arr 4 Int))×(List (List Int))×(List Int)×(List Int)×(List jo))=>x6 (x50.1,x50.2.1,x50.2.2.1,x50.2.2.2.1,x50.2.2.2.2.1,x50.2.2.2.2.2.1,x50.2.2.2.2.2.2.1,x50.2.2.2.2.2.2.2.1,x50.2.2.2.2.2.2.2.2.1,x50.2.2.2.2.2.2.2.2.2.1,x50.2.2.2.2.2.2.2.2.2.2)) fun x51=>ifB x48.2.2.2.2.2.2.1.1.2.2.1 (x51 (x48.1,x48.2.1,x48.2.2.1,x48.2.2.2.1,x48.2.2.2.2.1,((x48.2.2.2.2.2.2.1.1.1,x48.2.2.2.2.2.2.1.1.2.1,true,()),x48.2.2.2.2.2.2.1.2.1,()),x48.2.2.2.2.2.2.2.1,x48.2.2.2.2.2.2.2.2.1,x48.2.2.2.2.2.2.2.2.2.1,x48.2.2.2.2.2.2.2.2.2.2.1,x48.2.2.2.2.2.2.2.2.2.2.2)) (x51 (x48.1,x48.2.1,x48.2.2.1,x48.2.2.2.1,x48.2.2.2.2.1,((x48.2.2.2.2.2.2.1.1.1,x48.2.2.2.2.2.2.1.1.2.1,decide (¬ x48.2.2.2.2.2.1.1=6),()),x48.2.2.2.2.2.2.1.2.1,()),x48.2.2.2.2.2.2.2.1,x48.2.2.2.2.2.2.2.2.1,x48.2.2.2.2.2.2.2.2.2.1,x48.2.2.2.2.2.2.2.2.2.2.1,x48.2.2.2.2.2.2.2.2.2.2.2))) fun x49=>ifB (decide (¬ x4.1=7)) (jt (fun(x52:(List Int)×(List Int)×Int×Int×Bool×Int×(List (Arr 4 Int))×(List (List Int))×(List Int)×(List Int)) x53=>ifB (decide (x52.2.2.2.1<x52.2.2.1)) (ja (atL x52.2.1 x52.2.2.2.1) fun x54=>ja (qz x52.2.2.2.2.2.2.2.1.length x54) fun x55=>ja (atL x52.2.2.2.2.2.2.2.1 x55) fun x56=>ja (vq nn x56 x52.1) fun x57=>ja (qz x52.2.2.2.2.2.2.2.1.length x54) fun x58=>ja (Zg x52.2.2.2.2.2.2.2.1 x58 x57) fun x59=>ja (some (w64 (x52.2.2.2.1+1))) fun x60=>x53 (x52.1,x52.2.1,x52.2.2.1,x60,x52.2.2.2.2.1,x52.2.2.2.2.2.1,x52.2.2.2.2.2.2.1,x59,x52.2.2.2.2.2.2.2.2.1,x52.2.2.2.2.2.2.2.2.2)) (x49 (x2.1,x2.2.1,x2.2.2.1,x52.2.2.2.2.1,x52.2.2.2.2.2.1,x4,x46,x52.2.2.2.2.2.2.1,x52.2.2.2.2.2.2.2.1,x52.2.2.2.2.2.2.2.2.1,x52.2.2.2.2.2.2.2.2.2,x47))) nn (x46.1.1,x46.1.2.1,(x46.1.2.1.length:Int),0,x2.2.2.2.1,x2.2.2.2.2.1,x2.2.2.2.2.2.1,x2.2.2.2.2.2.2.1,x2.2.2.2.2.2.2.2.1,x2.2.2.2.2.2.2.2.2.1)) (x49 (x2.1,x2.2.1,x2.2.2.1,x2.2.2.2.1,x2.2.2.2.2.1,x4,x46,x2.2.2.2.2.2.1,x2.2.2.2.2.2.2.1,x2.2.2.2.2.2.2.2.1,x2.2.2.2.2.2.2.2.2.1,x47))))))) (ja (qz x2.2.2.2.2.2.2.2.2.2.length 0) fun x61=>ja (atL x2.2.2.2.2.2.2.2.2.2 x61) fun x62=>some (some (x2.2.2.2.2.2.1,x2.2.2.2.2.2.2.1,x62,())))) nn (a0,(a0.length:Int),0,false,0,[],[],[],[],[]))
noncomputable def zwg:=lk (α:=HK) [(506, .meet ⟨[(3, .pt 0 0),(4, .pt 1 0),(5, .fn 212 [] [.pt 1 0]),(18, .v (.sl Y_api_Rx)),(19, .v (.int .i64)),(20, .v (.int .i64))],[(0, .box 207 [.own 2, .own 3, .agg [.agg [.own 4, .own 5, .v .bool], .v (.int .i64)]]),(1, .box 230 [.own 6]),(2, .row 97 (.arr 4 (.int .u64))),(3, .row 31 (.sl (.int .i64))),(4, .row 3 (.int .i64)),(5, .row 3 (.int .i64)),(6, .row 205 qi)],7⟩),(259277, .meet ⟨[(3, .pt 0 0),(4, .pt 1 0),(5, .fn 212 [] [.pt 1 0]),(8, .pt 2 0),(18, .v (.sl Y_api_Rx)),(19, .v (.int .i64)),(20, .v (.int .i64))],[(0, .box 207 [.own 3, .own 4, .agg [.agg [.own 5, .own 6, .v .bool], .v (.int .i64)]]),(1, .box 230 [.own 7]),(2, .box 205 [.v qi]),(3, .row 97 (.arr 4 (.int .u64))),(4, .row 31 (.sl (.int .i64))),(5, .row 3 (.int .i64)),(6, .row 3 (.int .i64)),(7, .row 205 qi)],8⟩),(265500157, .meet ⟨[(3, .pt 0 0),(4, .pt 1 0),(5, .fn 212 [] [.pt 1 0]),(8, .pt 2 0),(18, .v (.sl Y_api_Rx)),(19, .v (.int .i64)),(20, .v (.int .i64))],[(0, .box 207 [.own 3, .own 4, .agg [.agg [.own 5, .own 6, .v .bool], .v (.int .i64)]]),(1, .box 230 [.own 7]),(2, .box 205 [.v qi]),(3, .row 97 (.arr 4 (.int .u64))),(4, .row 31 (.sl (.int .i64))),(5, .row 3 (.int .i64)),(6, .row 3 (.int .i64)),(7, .row 205 qi)],8⟩),(265500159, .meet ⟨[(3, .pt 0 0),(4, .pt 1 0),(5, .fn 212 [] [.pt 1 0]),(7, .pt 2 0),(8, .pt 3 0),(18, .v (.sl Y_api_Rx)),(19, .v (.int .i64)),(20, .v (.int .i64))],[(0, .box 207 [.own 4, .own 5, .agg [.agg [.own 6, .own 7, .v .bool], .v (.int .i64)]]),(1, .box 230 [.own 8]),(2, .box 126 [.v Y_api_Rx]),(3, .box 205 [.v qi]),(4, .row 97 (.arr 4 (.int .u64))),(5, .row 31 (.sl (.int .i64))),(6, .row 3 (.int .i64)),(7, .row 3 (.int .i64)),(8, .row 205 qi)],9⟩),(531000319, .meet ⟨[(3, .pt 0 0),(4, .pt 1 0),(5, .fn 212 [] [.pt 1 0]),(8, .pt 2 0),(18, .v (.sl Y_api_Rx)),(19, .v (.int .i64)),(20, .v (.int .i64))],[(0, .box 207 [.own 3, .own 4, .agg [.agg [.own 5, .own 6, .v .bool], .v (.int .i64)]]),(1, .box 230 [.own 7]),(2, .box 205 [.v qi]),(3, .row 97 (.arr 4 (.int .u64))),(4, .row 31 (.sl (.int .i64))),(5, .row 3 (.int .i64)),(6, .row 3 (.int .i64)),(7, .row 205 qi)],8⟩)]
noncomputable def zo2:=lk (α:=HK) []
noncomputable def zpz:=lk (α:=HK) []
noncomputable def zo1:=lk (α:=HK) []
noncomputable def zp1:=lk (α:=HK) [(14, .meet ⟨[(4, .pt 5 0),(5, .pt 6 0),(6, .pt 7 0),(7, .pt 8 0)],[(0, .box 207 [.own 1, .own 2, .agg [.agg [.own 3, .own 4, .v .bool], .v (.int .i64)]]),(1, .row 97 (.arr 4 (.int .u64))),(2, .row 31 (.sl (.int .i64))),(3, .row 3 (.int .i64)),(4, .row 3 (.int .i64)),(5, .box 205 [.v qi]),(6, .box 205 [.v qi]),(7, .box 205 [.agg [.own 9, .own 10, .v .bool], .v (.int .i64)]),(8, .box 205 [.v qi]),(9, .row 3 (.int .i64)),(10, .row 3 (.int .i64))],11⟩),(15, .meet ⟨[(4, .pt 5 0),(5, .pt 6 0),(6, .pt 7 0),(7, .pt 8 0)],[(0, .box 207 [.own 1, .own 2, .agg [.agg [.own 3, .own 4, .v .bool], .v (.int .i64)]]),(1, .row 97 (.arr 4 (.int .u64))),(2, .row 31 (.sl (.int .i64))),(3, .row 3 (.int .i64)),(4, .row 3 (.int .i64)),(5, .box 205 [.v qi]),(6, .box 205 [.v qi]),(7, .box 205 [.agg [.own 9, .own 10, .v .bool], .v (.int .i64)]),(8, .box 205 [.v qi]),(9, .row 3 (.int .i64)),(10, .row 3 (.int .i64))],11⟩),(31, .meet ⟨[(6, .pt 5 0),(7, .pt 6 0)],[(0, .box 207 [.own 1, .own 2, .agg [.agg [.own 3, .own 4, .v .bool], .v (.int .i64)]]),(1, .row 97 (.arr 4 (.int .u64))),(2, .row 31 (.sl (.int .i64))),(3, .row 3 (.int .i64)),(4, .row 3 (.int .i64)),(5, .box 205 [.agg [.own 7, .own 8, .v .bool], .v (.int .i64)]),(6, .box 205 [.v qi]),(7, .row 3 (.int .i64)),(8, .row 3 (.int .i64))],9⟩)]
noncomputable def zpw:=lk (α:=HK) [(6, .meet ⟨[(0, .pt 0 0),(2, .v (.sl (.int .i64))),(8, .v (.sl (.int .i64))),(9, .v (.int .i64)),(10, .v (.int .i64))],[(0, .box 207 [.own 1, .own 2, .agg [.agg [.own 3, .own 4, .v .bool], .v (.int .i64)]]),(1, .row 97 (.arr 4 (.int .u64))),(2, .row 31 (.sl (.int .i64))),(3, .row 3 (.int .i64)),(4, .row 3 (.int .i64))],5⟩)]
noncomputable def zpf:=lk (α:=HK) []
noncomputable def znf:=lk (α:=HK) []
noncomputable def zns:=lk (α:=HK) []
noncomputable def zo4:=lk (α:=HK) [(6, .meet ⟨[(0, .pt 0 0),(2, .v (.sl (.int .i64))),(8, .v (.sl (.int .i64))),(9, .v (.int .i64)),(10, .v (.int .i64))],[(0, .box 207 [.own 1, .own 2, .agg [.agg [.own 3, .own 4, .v .bool], .v (.int .i64)]]),(1, .row 97 (.arr 4 (.int .u64))),(2, .row 31 (.sl (.int .i64))),(3, .row 3 (.int .i64)),(4, .row 3 (.int .i64))],5⟩)]
noncomputable abbrev zyo (nn:Nat):PF:=⟨[(.sl Y_api_Rx)],(.ref zoj),fun t=>Jk nn t⟩
set_option maxRecDepth 100000 in
theorem Vg (nn:Nat):qe 193 (zyo nn):=mk1 Tryz.func193 nn 9 [(0,[107]),(1,[10]),(5,[29]),(9,[29])] [(0,[(105, .told qi)]),(1,[(17, .told (.arr 4 (.int .u64))),(26, .told (.sl (.int .i64))),(31, .told (.int .i64)),(33, .told (.int .i64))])] [] [] (itc 10270213 Tryz.func213 zo2 1 [1,2] (itc 12810212 Tryz.func212 zpz 2 [1] (itc 13460212 Tryz.func212 zo1 3 [1] (itc 13480214 Tryz.func214 zp1 4 [] (itc 40000710216 Tryz.func216 zpw 5 [] (itc 14730212 Tryz.func212 zpf 6 [1] (itc 14750212 Tryz.func212 znf 7 [1] (itc 7050212 Tryz.func212 zns 8 [1] (itc 8390216 Tryz.func216 zo4 9 [] itn (by kernel_rfl)) (by kernel_rfl)) (by kernel_rfl)) (by kernel_rfl)) (by kernel_rfl)) (by kernel_rfl)) (by kernel_rfl)) (by kernel_rfl)) (by kernel_rfl)) zwg rn gn (tc (zbg nn) (tc (zlz nn) tn)) (by kernel_rfl) fun t=>by kernel_rfl
noncomputable def za6 (nn:Nat) (a0:(List jj)):Option (List Int):=ja (Jk nn a0) fun x1=>ifB (!x1.isNone) (ja (x1) fun x2=>some x2.2.2.1.1.2.1) (some [])
noncomputable def zzf:=lk (α:=HK) []
noncomputable abbrev zyu (nn:Nat):PF:=⟨[(.sl Y_api_Rx)],(.sl (.int .i64)),fun t=>za6 nn t⟩
set_option maxRecDepth 100000 in
theorem zn4 (nn:Nat):qe 157 (zyu nn):=mk1 Tryz.func157 nn 0 [] [] [] [] itn zzf rn gn (tc (Vg nn) tn) (by kernel_rfl) fun t=>by kernel_rfl
noncomputable def zat (nn:Nat) (a0:(List jj)):Option (List (Arr 4 Int)):=ja (Jk nn a0) fun x1=>ifB (!x1.isNone) (ja (x1) fun x2=>some x2.1) (some [])
noncomputable def zy7:=lk (α:=HK) []
noncomputable abbrev zys (nn:Nat):PF:=⟨[(.sl Y_api_Rx)],(.sl (.arr 4 (.int .u64))),fun t=>zat nn t⟩
set_option maxRecDepth 100000 in
theorem zoc (nn:Nat):qe 158 (zys nn):=mk1 Tryz.func158 nn 0 [] [] [] [] itn zy7 rn gn (tc (Vg nn) tn) (by kernel_rfl) fun t=>by kernel_rfl
noncomputable def J9 (nn:Nat) (a0:Int):Option Bool:=some (decide (¬ a0=a0))
noncomputable def zez:=lk (α:=HK) []
noncomputable abbrev ze7 (nn:Nat):PF:=⟨[(.int .i64)], .bool,fun t=>J9 nn t⟩
set_option maxRecDepth 100000 in
theorem zcm (nn:Nat):qe 218 (ze7 nn):=mk1 Tryz.func218 nn 0 [] [] [] [] itn zez rn gn tn (by kernel_rfl) fun t=>by kernel_rfl
noncomputable def qr (nn:Nat) (a0:(List Int)) (a1:Int):Option (Int×Bool×Unit):=ja (some (a0.length:Int)) fun x1=>jt (fun(x2:(List Int)×Int×Int×Int×Int) x3=>ifB (decide (x2.2.2.2.1<x2.2.2.2.2)) (J (fun(x4:(List Int)×Int×Int×Int×Int)=>x3 (x4.1,x4.2.1,x4.2.2.1,x4.2.2.2.1,x4.2.2.2.2)) fun x5=>ja (zku .u64 (wr .u64 (w64 (x2.2.2.2.1+x2.2.2.2.2))) 1) fun x6=>ja (some (wr .i64 x6)) fun x7=>ja (atL x2.1 x7) fun x8=>ja (Qp nn x8 x2.2.1) fun x9=>ifB x9 (ja (some (w64 (x7+1))) fun x10=>x5 (x2.1,x2.2.1,x2.2.2.1,x10,x2.2.2.2.2)) (x5 (x2.1,x2.2.1,x2.2.2.1,x2.2.2.2.1,x7))) (J (fun(x11:Int×Bool)=>some (x11.1,x11.2,())) fun x12=>ja (some (decide (x2.2.2.2.1<x2.2.2.1))) fun x13=>ifB x13 (ja (atL x2.1 x2.2.2.2.1) fun x14=>ja (some (decide (x14=x2.2.1))) fun x15=>ifB x15 (x12 (x2.2.2.2.1,true)) (ja (atL x2.1 x2.2.2.2.1) fun x16=>ja (J9 nn x16) fun x17=>ifB x17 (ja (J9 nn x2.2.1) fun x18=>x12 (x2.2.2.2.1,x18)) (x12 (x2.2.2.2.1,false)))) (x12 (x2.2.2.2.1,false)))) nn (a0,a1,x1,0,x1)
noncomputable def Vs:=lk (α:=HK) [(60, .meet ⟨[(0, .v (.sl (.int .i64))),(1, .v (.int .i64)),(6, .v (.int .i64)),(7, .v (.int .i64)),(8, .v (.int .i64))],[],0⟩),(62, .meet ⟨[(4, .v (.int .i64)),(5, .v .bool)],[],0⟩),(241, .meet ⟨[(0, .v (.sl (.int .i64))),(1, .v (.int .i64)),(6, .v (.int .i64)),(7, .v (.int .i64)),(8, .v (.int .i64))],[],0⟩)]
noncomputable abbrev Vc (nn:Nat):PF:=⟨[(.sl (.int .i64)),(.int .i64)],(.tup (.cons (.int .i64) (.cons .bool .nil))),fun t=>qr nn (t.1) (t.2)⟩
set_option maxRecDepth 100000 in
theorem Qi (nn:Nat):qe 194 (Vc nn):=mk1 Tryz.func194 nn 0 [(0,[11,21,29,34,41])] [] [] [] itn Vs rn gn (tc (zf0 nn) (tc (zcm nn) tn)) (by kernel_rfl) fun t=>by kernel_rfl
noncomputable def zcq (nn:Nat) (a0:(List Int)) (a1:Int):Option Bool:=ja (qr nn a0 a1) fun x1=>some x1.2.1
noncomputable def zzo:=lk (α:=HK) []
noncomputable abbrev zz1 (nn:Nat):PF:=⟨[(.sl (.int .i64)),(.int .i64)], .bool,fun t=>zcq nn (t.1) (t.2)⟩
set_option maxRecDepth 100000 in
theorem zq4 (nn:Nat):qe 159 (zz1 nn):=mk1 Tryz.func159 nn 0 [] [] [] [] itn zzo rn gn (tc (Qi nn) tn) (by kernel_rfl) fun t=>by kernel_rfl
noncomputable def Yh (nn:Nat) (a0:(List jj)) (a1:Int):Option (List Int):=ja (Jk nn a0) fun x1=>J (fun(x2:Int×(Option zp3)×Bool)=>ifB x2.2.2 (ja (x2.2.1) fun x4=>ja (atL x4.2.1 x2.1) fun x5=>some x5) (some [])) fun x3=>ja (some (!x1.isNone)) fun x6=>ifB x6 (ifB (decide (0≤a1)) (ja (x1) fun x7=>x3 (a1,x1,decide (a1<x7.2.2.1.2.1))) (x3 (a1,x1,false))) (x3 (a1,x1,false))
noncomputable def zqd:=lk (α:=HK) [(26, .meet ⟨[(1, .v (.int .i64)),(5, .v (.ref zoj)),(22, .v .bool)],[],0⟩)]
noncomputable abbrev zqi (nn:Nat):PF:=⟨[(.sl Y_api_Rx),(.int .i64)],(.sl (.int .i64)),fun t=>Yh nn (t.1) (t.2)⟩
set_option maxRecDepth 100000 in
theorem zjp (nn:Nat):qe 161 (zqi nn):=mk1 Tryz.func161 nn 0 [(0,[9])] [] [] [] itn zqd rn gn (tc (Vg nn) tn) (by kernel_rfl) fun t=>by kernel_rfl
noncomputable def Jd (nn:Nat) (a0:(List Int)) (a1:Int):Option (List Int):=ja (some (a0.length:Int)) fun x1=>ja (mkO 8 x1) fun x2=>jt (fun(x3:(List Int)×Int×Int×Int×(List Int)) x4=>ifB (decide (x3.2.2.2.1<x3.2.2.1)) (ja (atL x3.1 x3.2.2.2.1) fun x5=>ja (qz x3.2.2.2.2.length x3.2.2.2.1) fun x6=>ja (Zg x3.2.2.2.2 x6 (w64 (x5+x3.2.1))) fun x7=>ja (some (w64 (x3.2.2.2.1+1))) fun x8=>x4 (x3.1,x3.2.1,x3.2.2.1,x8,x7)) (some x3.2.2.2.2)) nn (a0,a1,(a0.length:Int),0,(List.replicate x2 (0:Int)))
noncomputable def zqb:=lk (α:=HK) [(58, .meet ⟨[(0, .v (.sl (.int .i64))),(1, .v (.int .i64)),(5, .own 0),(11, .v (.int .i64)),(12, .v (.int .i64))],[(0, .row 3 (.int .i64))],1⟩)]
noncomputable abbrev zqp (nn:Nat):FF:=⟨[(.sl (.int .i64)),(.int .i64)],3,(.int .i64),fun t=>Jd nn (t.1) (t.2)⟩
set_option maxRecDepth 100000 in
theorem zjd (nn:Nat):FFOk 160 (zqp nn):=mk2 Tryz.func160 nn 0 [(0,[8,24])] [] [] [] itn zqb rn gn tn (by kernel_rfl) fun t=>by kernel_rfl
noncomputable abbrev zq0 (nn:Nat):PF:=⟨[(.sl (.int .i64)),(.int .i64)],(.sl (.int .i64)),fun t=>Jd nn (t.1) (t.2)⟩
theorem ziu (nn:Nat):qe 160 (zq0 nn):=(zjd nn).pure
noncomputable def Zs (nn:Nat) (a0:(List jj)):Option (List Int):=ja (Jk nn a0) fun x1=>ifB (!x1.isNone) (ja (x1) fun x2=>some x2.2.2.1.1.1) (some [])
noncomputable def zt8:=lk (α:=HK) []
noncomputable abbrev zu2 (nn:Nat):PF:=⟨[(.sl Y_api_Rx)],(.sl (.int .i64)),fun t=>Zs nn t⟩
set_option maxRecDepth 100000 in
theorem zkz (nn:Nat):qe 162 (zu2 nn):=mk1 Tryz.func162 nn 0 [] [] [] [] itn zt8 rn gn (tc (Vg nn) tn) (by kernel_rfl) fun t=>by kernel_rfl
noncomputable def za3 (nn:Nat) (a0:(List qh)):Option js:=jt (fun(x1:(List qh)×Int×Int×(List (Arr 4 Int))×(List Int)×(List Bool)×(List (List Int))×(List Int)×(List (Arr 4 Int))×(List Int)×(List Bool)×(List (List Int))×(List Int)) x2=>ifB (decide (x1.2.2.1<x1.2.1)) (ja (atL x1.1 x1.2.2.1) fun x3=>ja (some (x1.2.2.2.2.2.2.2.2.1.length:Int)) fun x4=>ja (za6 nn x3.2.1) fun x5=>ja (zat nn x3.2.1) fun x6=>jt (fun(x7:(List qh)×Int×(List jj)×Int×(List Int)×Int×Int×(List (Arr 4 Int))×Int×Int×(List (Arr 4 Int))×(List Int)×(List Bool)×(List (List Int))×(List Int)×(List (Arr 4 Int))×(List Int)×(List Bool)×(List (List Int))×(List Int)) x8=>ifB (decide (x7.2.2.2.2.2.2.2.2.2.1<x7.2.2.2.2.2.2.2.2.1)) (ja (atL x7.2.2.2.2.2.2.2.1 x7.2.2.2.2.2.2.2.2.2.1) fun x9=>ja (apO 32 x7.2.2.2.2.2.2.2.2.2.2.2.2.2.2.2.1 [x9]) fun x10=>ja (apO 8 x7.2.2.2.2.2.2.2.2.2.2.2.2.2.2.2.2.1 [x7.2.1]) fun x11=>ja (zcq nn x7.2.2.2.2.1 x7.2.2.2.2.2.2.2.2.2.1) fun x12=>ja (apO 1 x7.2.2.2.2.2.2.2.2.2.2.2.2.2.2.2.2.2.1 [x12]) fun x13=>ja (Yh nn x7.2.2.1 x7.2.2.2.2.2.2.2.2.2.1) fun x14=>ja (Jd nn x14 x7.2.2.2.1) fun x15=>ja (apO 24 x7.2.2.2.2.2.2.2.2.2.2.2.2.2.2.2.2.2.2.1 [x15]) fun x16=>ja (some (w64 (x7.2.2.2.2.2.2.2.2.2.1+1))) fun x17=>x8 (x7.1,x7.2.1,x7.2.2.1,x7.2.2.2.1,x7.2.2.2.2.1,x7.2.2.2.2.2.1,x7.2.2.2.2.2.2.1,x7.2.2.2.2.2.2.2.1,x7.2.2.2.2.2.2.2.2.1,x17,x7.2.2.2.2.2.2.2.2.2.2.1,x7.2.2.2.2.2.2.2.2.2.2.2.1,x7.2.2.2.2.2.2.2.2.2.2.2.2.1,x7.2.2.2.2.2.2.2.2.2.2.2.2.2.1,x7.2.2.2.2.2.2.2.2.2.2.2.2.2.2.1,x10,x11,x13,x16,x7.2.2.2.2.2.2.2.2.2.2.2.2.2.2.2.2.2.2.2)) (ja (Zs nn x7.2.2.1) fun x18=>ja (Jd nn x18 x7.2.2.2.1) fun x19=>ja (apO 8 x7.2.2.2.2.2.2.2.2.2.2.2.2.2.2.2.2.2.2.2 x19) fun x20=>ja (some (w64 (x7.2.2.2.2.2.2.1+1))) fun x21=>x2 (x7.1,x7.2.2.2.2.2.1,x21,x7.2.2.2.2.2.2.2.2.2.2.1,x7.2.2.2.2.2.2.2.2.2.2.2.1,x7.2.2.2.2.2.2.2.2.2.2.2.2.1,x7.2.2.2.2.2.2.2.2.2.2.2.2.2.1,x7.2.2.2.2.2.2.2.2.2.2.2.2.2.2.1,x7.2.2.2.2.2.2.2.2.2.2.2.2.2.2.2.1,x7.2.2.2.2.2.2.2.2.2.2.2.2.2.2.2.2.1,x7.2.2.2.2.2.2.2.2.2.2.2.2.2.2.2.2.2.1,x7.2.2.2.2.2.2.2.2.2.2.2.2.2.2.2.2.2.2.1,x20))) nn (x1.1,x1.2.2.1,x3.2.1,x4,x5,x1.2.1,x1.2.2.1,x6,(x6.length:Int),0,x1.2.2.2.1,x1.2.2.2.2.1,x1.2.2.2.2.2.1,x1.2.2.2.2.2.2.1,x1.2.2.2.2.2.2.2.1,x1.2.2.2.2.2.2.2.2.1,x1.2.2.2.2.2.2.2.2.2.1,x1.2.2.2.2.2.2.2.2.2.2.1,x1.2.2.2.2.2.2.2.2.2.2.2.1,x1.2.2.2.2.2.2.2.2.2.2.2.2)) (some (x1.2.2.2.2.2.2.2.2.1,x1.2.2.2.2.2.2.2.2.2.1,x1.2.2.2.2.2.2.2.2.2.2.1,x1.2.2.2.2.2.2.2.2.2.2.2.1,x1.2.2.2.2.2.2.2.2.2.2.2.2,()))) nn (a0,(a0.length:Int),0,[],[],[],[],[],[],[],[],[],[])
noncomputable def zxt:=lk (α:=HK) [(58, .meet ⟨[(0, .v (.sl Y_api_Token)),(2, .pt 0 0),(3, .pt 1 0),(11, .v (.int .i64)),(12, .v (.int .i64))],[(0, .box 61 [.own 2, .own 3, .own 4, .own 5, .own 6]),(1, .box 61 [.own 7, .own 8, .own 9, .own 10, .own 11]),(2, .row 97 (.arr 4 (.int .u64))),(3, .row 3 (.int .i64)),(4, .row 4 .bool),(5, .row 31 (.sl (.int .i64))),(6, .row 3 (.int .i64)),(7, .row 97 (.arr 4 (.int .u64))),(8, .row 3 (.int .i64)),(9, .row 4 .bool),(10, .row 31 (.sl (.int .i64))),(11, .row 3 (.int .i64))],12⟩),(119610, .meet ⟨[(0, .v (.sl Y_api_Token)),(2, .pt 0 0),(3, .pt 1 0),(4, .v (.int .i64)),(5, .v (.sl Y_api_Rx)),(6, .v (.int .i64)),(7, .v (.sl (.int .i64))),(11, .v (.int .i64)),(12, .v (.int .i64)),(26, .v (.sl (.arr 4 (.int .u64)))),(27, .v (.int .i64)),(28, .v (.int .i64))],[(0, .box 61 [.own 2, .own 3, .own 4, .own 5, .own 6]),(1, .box 61 [.own 7, .own 8, .own 9, .own 10, .own 11]),(2, .row 97 (.arr 4 (.int .u64))),(3, .row 3 (.int .i64)),(4, .row 4 .bool),(5, .row 31 (.sl (.int .i64))),(6, .row 3 (.int .i64)),(7, .row 97 (.arr 4 (.int .u64))),(8, .row 3 (.int .i64)),(9, .row 4 .bool),(10, .row 31 (.sl (.int .i64))),(11, .row 3 (.int .i64))],12⟩)]
noncomputable abbrev zy2 (nn:Nat):PF:=⟨[(.sl Y_api_Token)],j9,fun t=>za3 nn t⟩
set_option maxRecDepth 100000 in
theorem zpi (nn:Nat):qe 105 (zy2 nn):=mk1 Tryz.func105 nn 0 [(0,[22,63,72])] [(0,[(36, .told (.arr 4 (.int .u64))),(42, .told (.int .i64)),(50, .told .bool),(60, .told (.sl (.int .i64)))])] [] [] itn zxt rn gn (tc (zn4 nn) (tc (zoc nn) (tc (zq4 nn) (tc (ziu nn) (tc (zjp nn) (tc (zkz nn) tn)))))) (by kernel_rfl) fun t=>by kernel_rfl
noncomputable def Zv (nn:Nat) (a0:(List Int)):Option Bool:=jt (fun(x1:(List Int)×Int×Int) x2=>ifB (decide (x1.2.2<x1.2.1)) (ja (atL x1.1 x1.2.2) fun x3=>ja (atL x1.1 (w64 (x1.2.2+1))) fun x4=>ifB (decide (x4≤x3)) (some false) (ja (some (w64 (x1.2.2+1))) fun x5=>x2 (x1.1,x1.2.1,x5))) (some true)) nn (a0,w64 ((a0.length:Int)-1),0)
noncomputable def zuk:=lk (α:=HK) [(26, .meet ⟨[(0, .v (.sl (.int .i64))),(6, .v (.int .i64)),(7, .v (.int .i64))],[],0⟩)]
noncomputable abbrev ztt (nn:Nat):PF:=⟨[(.sl (.int .i64))], .bool,fun t=>Zv nn t⟩
set_option maxRecDepth 100000 in
theorem zld (nn:Nat):qe 211 (ztt nn):=mk1 Tryz.func211 nn 0 [(0,[20])] [] [] [] itn zuk rn gn tn (by kernel_rfl) fun t=>by kernel_rfl
noncomputable def Vm (nn:Nat) (a0:Int) (a1:(List (List Int))):Option Bool:=jt (fun(x1:Int×(List (List Int))×Int×Int) x2=>ifB (decide (x1.2.2.2<x1.2.2.1)) (ja (atL x1.2.1 x1.2.2.2) fun x3=>J (fun(x4:Int×(List (List Int))×Int×Int×Bool)=>ifB x4.2.2.2.2 (some false) (ja (some (w64 (x4.2.2.2.1+1))) fun x6=>x2 (x4.1,x4.2.1,x4.2.2.1,x6))) fun x5=>ja (Zv nn x3) fun x7=>ja (some (!x7)) fun x8=>ifB x8 (x5 (x1.1,x1.2.1,x1.2.2.1,x1.2.2.2,true)) (ja (some (decide (0<(x3.length:Int)))) fun x9=>ifB x9 (ja (atL x3 0) fun x10=>ja (some (decide (x10<0))) fun x11=>ifB x11 (x5 (x1.1,x1.2.1,x1.2.2.1,x1.2.2.2,true)) (ja (atL x3 (w64 ((x3.length:Int)-1))) fun x12=>x5 (x1.1,x1.2.1,x1.2.2.1,x1.2.2.2,decide (x1.1≤x12)))) (x5 (x1.1,x1.2.1,x1.2.2.1,x1.2.2.2,false)))) (some true)) nn (a0,a1,(a1.length:Int),0)
noncomputable def zvn:=lk (α:=HK) [(26, .meet ⟨[(0, .v (.int .i64)),(7, .v (.sl (.sl (.int .i64)))),(8, .v (.int .i64)),(9, .v (.int .i64))],[],0⟩),(3378, .meet ⟨[(0, .v (.int .i64)),(7, .v (.sl (.sl (.int .i64)))),(8, .v (.int .i64)),(9, .v (.int .i64)),(36, .v .bool)],[],0⟩)]
noncomputable abbrev ztv (nn:Nat):PF:=⟨[(.int .i64),(.sl (.sl (.int .i64)))], .bool,fun t=>Vm nn (t.1) (t.2)⟩
set_option maxRecDepth 100000 in
theorem zl1 (nn:Nat):qe 190 (ztv nn):=mk1 Tryz.func190 nn 0 [(0,[15,19,24,37])] [] [] [] itn zvn rn gn (tc (zld nn) tn) (by kernel_rfl) fun t=>by kernel_rfl
noncomputable def zj (nn:Nat) (a0:js):Option Bool:=ja (some (a0.1.length:Int)) fun x1=>J (fun(x2:Int×Bool×js)=>ifB x2.2.1 (some false) (jt (fun(x4:Int×(List Int)×Int×Int×js) x5=>ifB (decide (x4.2.2.2.1<x4.2.2.1)) (ja (atL x4.2.1 x4.2.2.2.1) fun x6=>ifB (decide (x6<0)) (some false) (ja (some (w64 (x4.2.2.2.1+1))) fun x7=>x5 (x4.1,x4.2.1,x4.2.2.1,x7,x4.2.2.2.2))) (J (fun(x8:Bool)=>some x8) fun x9=>ja (Vm nn x4.1 [x4.2.2.2.2.2.2.2.2.1]) fun x10=>ifB x10 (ja (Vm nn x4.1 x4.2.2.2.2.2.2.2.1) fun x11=>x9 x11) (x9 false))) nn (x2.1,x2.2.2.2.1,(x2.2.2.2.1.length:Int),0,x2.2.2))) fun x3=>ja (some (decide (¬(a0.2.1.length:Int)=x1))) fun x12=>ifB x12 (x3 (x1,true,a0)) (ifB (decide (¬(a0.2.2.1.length:Int)=x1)) (x3 (x1,true,a0)) (x3 (x1,decide (¬(a0.2.2.2.1.length:Int)=x1),a0)))
noncomputable def zs0:=lk (α:=HK) [(28, .meet ⟨[(1, .pt 0 0),(3, .v (.int .i64)),(27, .v .bool)],[(0, .box 61 [.v j9])],1⟩),(62, .meet ⟨[(2, .v .bool)],[],0⟩),(122, .meet ⟨[(1, .pt 0 0),(3, .v (.int .i64)),(29, .v (.sl (.int .i64))),(30, .v (.int .i64)),(31, .v (.int .i64))],[(0, .box 61 [.v j9])],1⟩)]
noncomputable abbrev zvw (nn:Nat):PF:=⟨[j9], .bool,fun t=>zj nn t⟩
set_option maxRecDepth 100000 in
theorem Qq (nn:Nat):qe 149 (zvw nn):=mk1 Tryz.func149 nn 0 [(0,[8,13,37])] [(0,[(41, .told (.sl (.int .i64)))])] [] [] itn zs0 rn gn (tc (zl1 nn) tn) (by kernel_rfl) fun t=>by kernel_rfl
noncomputable def zcn (nn:Nat) (a0:(Arr 4 Int)) (a1:Int):Option Bool:=ja (zuj .u8 a1 64) fun x1=>ja (qz 4 x1) fun x2=>ja (atL a0.l x2) fun x3=>ja (zyd .u8 a1 64) fun x4=>ja (z0b .u64 1 x4) fun x5=>some (decide (¬(z6v .u64 x3 x5)=0))
noncomputable def z0c:=lk (α:=HK) []
noncomputable abbrev z03 (nn:Nat):PF:=⟨[(.arr 4 (.int .u64)),(.int .u8)], .bool,fun t=>zcn nn (t.1) (t.2)⟩
set_option maxRecDepth 100000 in
theorem zqk (nn:Nat):qe 204 (z03 nn):=mk1 Tryz.func204 nn 0 [] [] [] [] itn z0c rn gn tn (by kernel_rfl) fun t=>by kernel_rfl
noncomputable def Vh (nn:Nat) (a0:(Arr 256 Int)) (a1:(Arr 4 Int)):Option (Arr 256 Int):=jt (fun(x1:Int×(Arr 256 Int)×(Arr 4 Int)×(Arr 256 Int)×(List (yq×Int×Unit))) x2=>ifB (decide (x1.1<256)) (ja (qz 256 x1.1) fun x3=>ja (atL x1.2.1.l x3) fun x4=>ja (zcn nn x1.2.2.1 (wr .u8 x1.1)) fun x5=>J (fun(x6:Int×Int×(Arr 256 Int)×(Arr 4 Int)×(Arr 256 Int)×(List (yq×Int×Unit))×yq)=>ja (some (Qx zb9 x6.2.2.2.2.2.1 x6.2.2.2.2.2.2)) fun x8=>ja (qz 256 x6.1) fun x9=>ja (zqw x6.2.2.1 x9 (gD 0 x8)) fun x10=>ja (some (w64 (x6.2.1+1))) fun x11=>x2 (x11,x10,x6.2.2.2.1,x6.2.2.2.2.1,x6.2.2.2.2.2.1)) fun x7=>ja (some (Qx zb9 x1.2.2.2.2 (x4,x5,()))) fun x12=>ifB (!x12.isSome) (ja (some (x1.2.2.2.2.length:Int)) fun x13=>ja (some (zau zb9 x1.2.2.2.2 (x4,x5,()) (wr .u8 x13))) fun x14=>x7 (x1.1,x1.1,x1.2.1,x1.2.2.1,x1.2.2.2.1,x14,(x4,x5,()))) (x7 (x1.1,x1.1,x1.2.1,x1.2.2.1,x1.2.2.2.1,x1.2.2.2.2,(x4,x5,())))) (some x1.2.1)) nn (0,a0,a1,⟨List.replicate 256 0,List.length_replicate⟩,[])
noncomputable def zta:=lk (α:=HK) [(58, .meet ⟨[(2, .pt 0 0),(3, .pt 1 0),(4, .pt 2 0),(5, .own 3),(11, .v (.int .i64))],[(0, .box 29 [.v (.arr 256 (.int .u8))]),(1, .box 97 [.v (.arr 4 (.int .u64))]),(2, .box 29 [.v (.arr 256 (.int .u8))]),(3, .obj (.mp zi (.int .u8)))],4⟩),(7475, .meet ⟨[(2, .pt 0 0),(3, .pt 1 0),(4, .pt 2 0),(5, .own 3),(6, .v (.int .i64)),(7, .pt 4 0),(11, .v (.int .i64))],[(0, .box 29 [.v (.arr 256 (.int .u8))]),(1, .box 97 [.v (.arr 4 (.int .u64))]),(2, .box 29 [.v (.arr 256 (.int .u8))]),(3, .obj (.mp zi (.int .u8))),(4, .box 223 [.v zi])],5⟩)]
noncomputable abbrev zu8 (nn:Nat):PF:=⟨[(.arr 256 (.int .u8)),(.arr 4 (.int .u64))],(.arr 256 (.int .u8)),fun t=>Vh nn (t.1) (t.2)⟩
set_option maxRecDepth 100000 in
theorem zde (nn:Nat):qe 173 (zu8 nn):=mk1 Tryz.func173 nn 0 [(0,[40])] [] [] [] itn zta rn gn (tc (zqk nn) tn) (by kernel_rfl) fun t=>by kernel_rfl
noncomputable def zl (nn:Nat) (a0:(Arr 256 Int)):Option Int:=jt (fun(x1:Int×(Arr 256 Int)×Int) x2=>ifB (decide (x1.2.2<256)) (ja (atL x1.2.1.l x1.2.2) fun x3=>ja (some (max x1.1 (w64 ((wr .i64 x3)+1)))) fun x4=>ja (some (w64 (x1.2.2+1))) fun x5=>x2 (x4,x1.2.1,x5)) (some x1.1)) nn (0,a0,0)
noncomputable def zvt:=lk (α:=HK) [(58, .meet ⟨[(3, .v (.int .i64)),(6, .v (.arr 256 (.int .u8))),(7, .v (.int .i64))],[],0⟩)]
noncomputable abbrev zti (nn:Nat):PF:=⟨[(.arr 256 (.int .u8))],(.int .i64),fun t=>zl nn t⟩
set_option maxRecDepth 100000 in
theorem zdb (nn:Nat):qe 112 (zti nn):=mk1 Tryz.func112 nn 0 [(0,[14,15])] [] [] [] itn zvt rn gn tn (by kernel_rfl) fun t=>by kernel_rfl
noncomputable def zem (nn:Nat) (a0:(List (Arr 4 Int))):Option ((Arr 256 Int)×Int×Unit):=jt (fun(x1:(List (Arr 4 Int))×Int×Int×(Arr 256 Int)×(Arr 256 Int)) x2=>ifB (decide (x1.2.2.1<x1.2.1)) (ja (atL x1.1 x1.2.2.1) fun x3=>ja (Vh nn x1.2.2.2.2 x3) fun x4=>ja (some (w64 (x1.2.2.1+1))) fun x5=>x2 (x1.1,x1.2.1,x5,x1.2.2.2.1,x4)) (ja (zl nn x1.2.2.2.2) fun x6=>some (x1.2.2.2.2,x6,()))) nn (a0,(a0.length:Int),0,⟨List.replicate 256 0,List.length_replicate⟩,⟨List.replicate 256 0,List.length_replicate⟩)
noncomputable def z3w:=lk (α:=HK) [(58, .meet ⟨[(2, .pt 0 0),(4, .pt 1 0),(7, .v (.sl (.arr 4 (.int .u64)))),(8, .v (.int .i64)),(9, .v (.int .i64))],[(0, .box 29 [.v (.arr 256 (.int .u8))]),(1, .box 29 [.v (.arr 256 (.int .u8))])],2⟩)]
noncomputable abbrev z5e (nn:Nat):PF:=⟨[(.sl (.arr 4 (.int .u64)))],(.tup (.cons (.arr 256 (.int .u8)) (.cons (.int .i64) .nil))),fun t=>zem nn t⟩
set_option maxRecDepth 100000 in
theorem zvb (nn:Nat):qe 150 (z5e nn):=mk1 Tryz.func150 nn 0 [(0,[16])] [] [] [] itn z3w rn gn (tc (zdb nn) (tc (zde nn) tn)) (by kernel_rfl) fun t=>by kernel_rfl
noncomputable def V5 (nn:Nat) (a0:(List Int)):Option (List UInt8):=jt (fun(x1:(List Int)×Int×Int×(List Int)) x2=>ifB (decide (x1.2.2.1<x1.2.1)) (ja (atL x1.1 x1.2.2.1) fun x3=>jt (fun(x4:Int×Int×(List Int)×Int×Int×(List Int)) x5=>ifB (decide (0≤x4.2.1)) (ja (zku .u64 (wr .u64 x4.1) x4.2.1) fun x6=>ja (apO 1 x4.2.2.2.2.2 [wr .u8 x6]) fun x7=>ja (some (w64 (x4.2.1-8))) fun x8=>x5 (x4.1,x8,x4.2.2.1,x4.2.2.2.1,x4.2.2.2.2.1,x7)) (ja (some (w64 (x4.2.2.2.2.1+1))) fun x9=>x2 (x4.2.2.1,x4.2.2.2.1,x9,x4.2.2.2.2.2))) nn (x3,56,x1.1,x1.2.1,x1.2.2.1,x1.2.2.2)) (ja (b2s x1.2.2.2) fun x10=>some x10)) nn (a0,(a0.length:Int),0,[])
noncomputable def z0d:=lk (α:=HK) [(58, .meet ⟨[(3, .own 0),(7, .v (.sl (.int .i64))),(8, .v (.int .i64)),(9, .v (.int .i64))],[(0, .row 5 (.int .u8))],1⟩),(14950, .meet ⟨[(3, .own 0),(5, .v (.int .i64)),(6, .v (.int .i64)),(7, .v (.sl (.int .i64))),(8, .v (.int .i64)),(9, .v (.int .i64))],[(0, .row 5 (.int .u8))],1⟩)]
noncomputable abbrev z0g (nn:Nat):PF:=⟨[(.sl (.int .i64))], .str,fun t=>V5 nn t⟩
set_option maxRecDepth 100000 in
theorem zql (nn:Nat):qe 152 (z0g nn):=mk1 Tryz.func152 nn 0 [(0,[16,25])] [(0,[(23, .told (.int .u8))])] [] [] itn z0d rn gn tn (by kernel_rfl) fun t=>by kernel_rfl
noncomputable def Vq (nn:Nat) (a0:(Arr 256 Int)) (a1:Int):Option (List Int):=jt (fun(x1:Int×Int×(Arr 256 Int)×(List Int)) x2=>ifB (decide (x1.2.1<256)) (J (fun(x3:Int×Int×(Arr 256 Int)×(List Int))=>ja (some (w64 (x3.2.1+1))) fun x5=>x2 (x3.1,x5,x3.2.2.1,x3.2.2.2)) fun x4=>ja (qz 256 x1.2.1) fun x6=>ja (atL x1.2.2.1.l x6) fun x7=>ifB (decide ((wr .i64 x7)=x1.1)) (ja (apO 1 x1.2.2.2 [wr .u8 x1.2.1]) fun x8=>x4 (x1.1,x1.2.1,x1.2.2.1,x8)) (x4 (x1.1,x1.2.1,x1.2.2.1,x1.2.2.2))) (some x1.2.2.2)) nn (a1,0,a0,[])
noncomputable def zvs:=lk (α:=HK) [(58, .meet ⟨[(1, .v (.int .i64)),(2, .pt 0 0),(5, .own 1),(7, .v (.int .i64))],[(0, .box 29 [.v (.arr 256 (.int .u8))]),(1, .row 5 (.int .u8))],2⟩),(934, .meet ⟨[(1, .v (.int .i64)),(2, .pt 0 0),(5, .own 1),(7, .v (.int .i64))],[(0, .box 29 [.v (.arr 256 (.int .u8))]),(1, .row 5 (.int .u8))],2⟩)]
noncomputable abbrev ztz (nn:Nat):FF:=⟨[(.arr 256 (.int .u8)),(.int .i64)],5,(.int .u8),fun t=>Vq nn (t.1) (t.2)⟩
set_option maxRecDepth 100000 in
theorem zk1 (nn:Nat):FFOk 153 (ztz nn):=mk2 Tryz.func153 nn 0 [(0,[21])] [(0,[(19, .told (.int .u8))])] [] [] itn zvs rn gn tn (by kernel_rfl) fun t=>by kernel_rfl
noncomputable abbrev zvj (nn:Nat):PF:=⟨[(.arr 256 (.int .u8)),(.int .i64)],(.sl (.int .u8)),fun t=>Vq nn (t.1) (t.2)⟩
theorem zla (nn:Nat):qe 153 (zvj nn):=(zk1 nn).pure
noncomputable def zbi (nn:Nat) (a0:js) (a1:(List Int)) (a2:Int):Option (List Int):=jt (fun(x1:Int×(List Int)×Int×Int×js×(List Int)) x2=>ifB (decide (x1.2.2.2.1<x1.2.2.1)) (J (fun(x3:Int×(List Int)×Int×Int×js×(List Int))=>ja (some (w64 (x3.2.2.2.1+1))) fun x5=>x2 (x3.1,x3.2.1,x3.2.2.1,x5,x3.2.2.2.2.1,x3.2.2.2.2.2)) fun x4=>ja (atL x1.2.1 x1.2.2.2.1) fun x6=>ja (zuj .u8 x1.1 64) fun x7=>ja (atL x1.2.2.2.2.1.1 x6) fun x8=>ja (atL x8.l x7) fun x9=>ja (zyd .u8 x1.1 64) fun x10=>ja (zku .u64 x9 x10) fun x11=>ifB (decide (¬(z6v .u64 x11 1)=0)) (ja (apO 8 x1.2.2.2.2.2 [x6]) fun x12=>x4 (x1.1,x1.2.1,x1.2.2.1,x1.2.2.2.1,x1.2.2.2.2.1,x12)) (x4 (x1.1,x1.2.1,x1.2.2.1,x1.2.2.2.1,x1.2.2.2.2.1,x1.2.2.2.2.2))) (some x1.2.2.2.2.2)) nn (a2,a1,(a1.length:Int),0,a0,[])
noncomputable def zqq:=lk (α:=HK) [(58, .meet ⟨[(2, .v (.int .u8)),(3, .pt 0 0),(7, .own 1),(10, .v (.sl (.int .i64))),(11, .v (.int .i64)),(12, .v (.int .i64))],[(0, .box 61 [.v j9]),(1, .row 3 (.int .i64))],2⟩),(934, .meet ⟨[(2, .v (.int .u8)),(3, .pt 0 0),(7, .own 1),(10, .v (.sl (.int .i64))),(11, .v (.int .i64)),(12, .v (.int .i64))],[(0, .box 61 [.v j9]),(1, .row 3 (.int .i64))],2⟩)]
noncomputable abbrev zqu (nn:Nat):FF:=⟨[j9,(.sl (.int .i64)),(.int .u8)],3,(.int .i64),fun t=>zbi nn (t.1) (t.2.1) (t.2.2)⟩
set_option maxRecDepth 100000 in
theorem zbx (nn:Nat):FFOk 191 (zqu nn):=mk2 Tryz.func191 nn 0 [(0,[33])] [(0,[(31, .told (.int .i64))])] [] [] itn zqq rn gn tn (by kernel_rfl) fun t=>by kernel_rfl
noncomputable abbrev Yr:=zbi
noncomputable def Vk (nn:Nat) (a0:js) (a1:Int):Option (List Int):=ja (zj nn a0) fun x1=>ifB (!x1) (some []) (ja (Yr nn a0 a0.2.2.2.2.1 a1) fun x2=>some x2)
noncomputable def zu6:=lk (α:=HK) []
noncomputable abbrev ztr (nn:Nat):FF:=⟨[j9,(.int .u8)],3,(.int .i64),fun t=>Vk nn (t.1) (t.2)⟩
set_option maxRecDepth 100000 in
theorem zmo (nn:Nat):FFOk 154 (ztr nn):=mk2 Tryz.func154 nn 0 [] [] [] [196] itn zu6 rn (gc (zbx nn) gn) (tc (Qq nn) tn) (by kernel_rfl) fun t=>by kernel_rfl
noncomputable abbrev zux (nn:Nat):PF:=⟨[j9,(.int .u8)],(.sl (.int .i64)),fun t=>Vk nn (t.1) (t.2)⟩
theorem zk2 (nn:Nat):qe 154 (zux nn):=(zmo nn).pure
noncomputable def zjh (nn:Nat) (a0:js) (a1:(List Int)) (a2:Int):Option (List Int):=jt (fun(x1:Int×(List Int)×(List Int)×Int×Int×js) x2=>ifB (decide (x1.2.2.2.2.1<x1.2.2.2.1)) (J (fun(x3:Int×(List Int)×(List Int)×Int×Int×js)=>ja (some (w64 (x3.2.2.2.2.1+1))) fun x5=>x2 (x3.1,x3.2.1,x3.2.2.1,x3.2.2.2.1,x5,x3.2.2.2.2.2)) fun x4=>ja (atL x1.2.2.1 x1.2.2.2.2.1) fun x6=>J (fun(x7:Int×(List Int)×Int×(List Int)×Int×Int×Bool×js)=>ifB x7.2.2.2.2.2.2.1 (ja (atL x7.2.2.2.2.2.2.2.2.2.2.1 x7.2.2.1) fun x9=>ja (yp nn x7.2.1 x9) fun x10=>x4 (x7.1,x10,x7.2.2.2.1,x7.2.2.2.2.1,x7.2.2.2.2.2.1,x7.2.2.2.2.2.2.2)) (x4 (x7.1,x7.2.1,x7.2.2.2.1,x7.2.2.2.2.1,x7.2.2.2.2.2.1,x7.2.2.2.2.2.2.2))) fun x8=>ja (some (decide (0≤x6))) fun x11=>ifB x11 (x8 (x1.1,x1.2.1,x6,x1.2.2.1,x1.2.2.2.1,x1.2.2.2.2.1,decide (x6<(x1.2.2.2.2.2.2.2.2.1.length:Int)),x1.2.2.2.2.2)) (x8 (x1.1,x1.2.1,x6,x1.2.2.1,x1.2.2.2.1,x1.2.2.2.2.1,false,x1.2.2.2.2.2))) (ja (Yr nn x1.2.2.2.2.2 x1.2.1 x1.1) fun x12=>some x12)) nn (a2,[],a1,(a1.length:Int),0,a0)
noncomputable def z3d:=lk (α:=HK) [(58, .meet ⟨[(2, .v (.int .u8)),(3, .pt 0 0),(7, .v (.sl (.int .i64))),(10, .v (.sl (.int .i64))),(11, .v (.int .i64)),(12, .v (.int .i64))],[(0, .box 61 [.v j9])],1⟩),(934, .meet ⟨[(2, .v (.int .u8)),(3, .pt 0 0),(7, .v (.sl (.int .i64))),(10, .v (.sl (.int .i64))),(11, .v (.int .i64)),(12, .v (.int .i64))],[(0, .box 61 [.v j9])],1⟩),(7474, .meet ⟨[(2, .v (.int .u8)),(3, .pt 0 0),(7, .v (.sl (.int .i64))),(9, .v (.int .i64)),(10, .v (.sl (.int .i64))),(11, .v (.int .i64)),(12, .v (.int .i64)),(24, .v .bool)],[(0, .box 61 [.v j9])],1⟩)]
noncomputable abbrev z4d (nn:Nat):FF:=⟨[j9,(.sl (.int .i64)),(.int .u8)],3,(.int .i64),fun t=>zjh nn (t.1) (t.2.1) (t.2.2)⟩
set_option maxRecDepth 100000 in
theorem zto (nn:Nat):FFOk 192 (z4d nn):=mk2 Tryz.func192 nn 0 [(0,[17,32])] [] [] [515] itn z3d rn (gc (zbx nn) gn) (tc (zdg nn) tn) (by kernel_rfl) fun t=>by kernel_rfl
noncomputable abbrev zj8:=zjh
noncomputable def Yy (nn:Nat) (a0:js) (a1:(List Int)) (a2:Int):Option (List Int):=ja (zj nn a0) fun x1=>ifB (!x1) (some []) (ja (zj8 nn a0 a1 a2) fun x2=>some x2)
noncomputable def zyp:=lk (α:=HK) []
noncomputable abbrev zw0 (nn:Nat):FF:=⟨[j9,(.sl (.int .i64)),(.int .u8)],3,(.int .i64),fun t=>Yy nn (t.1) (t.2.1) (t.2.2)⟩
set_option maxRecDepth 100000 in
theorem zpk (nn:Nat):FFOk 155 (zw0 nn):=mk2 Tryz.func155 nn 0 [] [] [] [195] itn zyp rn (gc (zto nn) gn) (tc (Qq nn) tn) (by kernel_rfl) fun t=>by kernel_rfl
noncomputable abbrev zzb (nn:Nat):PF:=⟨[j9,(.sl (.int .i64)),(.int .u8)],(.sl (.int .i64)),fun t=>Yy nn (t.1) (t.2.1) (t.2.2)⟩
theorem znw (nn:Nat):qe 155 (zzb nn):=(zpk nn).pure
noncomputable def Zp (nn:Nat) (a0:js) (a1:(List Int)):Option Int:=ja (zj nn a0) fun x1=>ifB (!x1) (some (-1)) (jt (fun(x2:Int×(List Int)×Int×Int×js) x3=>ifB (decide (x2.2.2.2.1<x2.2.2.1)) (J (fun(x4:Int×(List Int)×Int×Int×js)=>ja (some (w64 (x4.2.2.2.1+1))) fun x6=>x3 (x4.1,x4.2.1,x4.2.2.1,x6,x4.2.2.2.2)) fun x5=>ja (atL x2.2.1 x2.2.2.2.1) fun x7=>J (fun(x8:Int×Int×(List Int)×Int×Int×Bool×js)=>ifB x8.2.2.2.2.2.1 (x5 (x8.1,x8.2.2.1,x8.2.2.2.1,x8.2.2.2.2.1,x8.2.2.2.2.2.2)) (J (fun(x10:Int×Int×(List Int)×Int×Int×js)=>ja (atL x10.2.2.2.2.2.2.1 x10.2.1) fun x12=>ja (some (min x10.1 x12)) fun x13=>x5 (x13,x10.2.2.1,x10.2.2.2.1,x10.2.2.2.2.1,x10.2.2.2.2.2)) fun x11=>ifB (decide (x8.1<0)) (ja (atL x8.2.2.2.2.2.2.2.1 x8.2.1) fun x14=>x11 (x14,x8.2.1,x8.2.2.1,x8.2.2.2.1,x8.2.2.2.2.1,x8.2.2.2.2.2.2)) (x11 (x8.1,x8.2.1,x8.2.2.1,x8.2.2.2.1,x8.2.2.2.2.1,x8.2.2.2.2.2.2)))) fun x9=>ja (some (decide (x7<0))) fun x15=>ifB x15 (x9 (x2.1,x7,x2.2.1,x2.2.2.1,x2.2.2.2.1,true,x2.2.2.2.2)) (ifB (decide ((x2.2.2.2.2.2.1.length:Int)≤x7)) (x9 (x2.1,x7,x2.2.1,x2.2.2.1,x2.2.2.2.1,true,x2.2.2.2.2)) (ja (atL x2.2.2.2.2.2.2.1 x7) fun x16=>x9 (x2.1,x7,x2.2.1,x2.2.2.1,x2.2.2.2.1,!x16,x2.2.2.2.2)))) (some x2.1)) nn ((-1),a1,(a1.length:Int),0,a0))
noncomputable def zue:=lk (α:=HK) [(122, .meet ⟨[(2, .pt 0 0),(5, .v (.int .i64)),(12, .v (.sl (.int .i64))),(13, .v (.int .i64)),(14, .v (.int .i64))],[(0, .box 61 [.v j9])],1⟩),(1958, .meet ⟨[(2, .pt 0 0),(5, .v (.int .i64)),(12, .v (.sl (.int .i64))),(13, .v (.int .i64)),(14, .v (.int .i64))],[(0, .box 61 [.v j9])],1⟩),(15667, .meet ⟨[(2, .pt 0 0),(5, .v (.int .i64)),(7, .v (.int .i64)),(12, .v (.sl (.int .i64))),(13, .v (.int .i64)),(14, .v (.int .i64))],[(0, .box 61 [.v j9])],1⟩),(31332, .meet ⟨[(2, .pt 0 0),(5, .v (.int .i64)),(7, .v (.int .i64)),(12, .v (.sl (.int .i64))),(13, .v (.int .i64)),(14, .v (.int .i64)),(34, .v .bool)],[(0, .box 61 [.v j9])],1⟩)]
noncomputable abbrev zva (nn:Nat):PF:=⟨[j9,(.sl (.int .i64))],(.int .i64),fun t=>Zp nn (t.1) (t.2)⟩
set_option maxRecDepth 100000 in
theorem zmf (nn:Nat):qe 156 (zva nn):=mk1 Tryz.func156 nn 0 [(0,[19,48,49])] [] [] [] itn zue rn gn (tc (Qq nn) tn) (by kernel_rfl) fun t=>by kernel_rfl
noncomputable def zbe (nn:Nat) (a0:js) (a1:Int):Option (D_api_Dfa×Int×Int×Unit):=ja (zj nn a0) fun x1=>ifB (!x1) (some ((⟨List.replicate 256 0,List.length_replicate⟩,0,[],[],()),0,3,())) (J (fun(x2:Int×Bool×js×(Arr 256 Int)×Int×(List (List Int))×(List Int))=>ifB x2.2.1 (some ((⟨List.replicate 256 0,List.length_replicate⟩,0,[],[],()),0,2,())) (ja (zem nn x2.2.2.1.1) fun x4=>jt (fun(x5:Int×Int×js×(Arr 256 Int)×Int×(Arr 256 Int)×Int×(List (List Int))×(List Int)×(List (List Int))×(List Int)×(List (List Int))×(List ((List UInt8)×Int×Unit))) x6=>ifB (decide (x5.2.1<(x5.2.2.2.2.2.2.2.2.2.2.2.1.length:Int))) (ja (mkO 8 x5.2.2.2.2.2.2.1) fun x7=>jt (fun(x8:Int×Int×Int×Int×js×(Arr 256 Int)×Int×(Arr 256 Int)×Int×(List Int)×(List (List Int))×(List Int)×(List (List Int))×(List Int)×(List (List Int))×(List ((List UInt8)×Int×Unit))) x9=>ifB (decide (x8.2.2.2.1<x8.2.2.1)) (ja (Vq nn x8.2.2.2.2.2.2.2.1 x8.2.2.2.1) fun x10=>ja (atL x10 0) fun x11=>J (fun(x12:Int×Int×Int×Int×js×(Arr 256 Int)×Int×(Arr 256 Int)×Int×(List Int)×(List (List Int))×(List Int)×(List (List Int))×(List Int)×(List (List Int))×(List ((List UInt8)×Int×Unit)))=>ifB (decide (x12.1<(x12.2.2.2.2.2.2.2.2.2.2.2.2.2.2.1.length:Int))) (some ((⟨List.replicate 256 0,List.length_replicate⟩,0,[],[],()),0,16,())) (ja (some (w64 (x12.2.2.2.1+1))) fun x14=>x9 (x12.1,x12.2.1,x12.2.2.1,x14,x12.2.2.2.2.1,x12.2.2.2.2.2.1,x12.2.2.2.2.2.2.1,x12.2.2.2.2.2.2.2.1,x12.2.2.2.2.2.2.2.2.1,x12.2.2.2.2.2.2.2.2.2.1,x12.2.2.2.2.2.2.2.2.2.2.1,x12.2.2.2.2.2.2.2.2.2.2.2.1,x12.2.2.2.2.2.2.2.2.2.2.2.2.1,x12.2.2.2.2.2.2.2.2.2.2.2.2.2.1,x12.2.2.2.2.2.2.2.2.2.2.2.2.2.2.1,x12.2.2.2.2.2.2.2.2.2.2.2.2.2.2.2))) fun x13=>ifB (decide (x8.2.1=0)) (J (fun(x15:Int×Int×Int×Int×js×(Arr 256 Int)×Int×(Arr 256 Int)×Int×(List Int)×(List (List Int))×(List Int)×(List (List Int))×(List Int)×(List (List Int))×(List ((List UInt8)×Int×Unit)))=>x13 (x15.1,x15.2.1,x15.2.2.1,x15.2.2.2.1,x15.2.2.2.2.1,x15.2.2.2.2.2.1,x15.2.2.2.2.2.2.1,x15.2.2.2.2.2.2.2.1,x15.2.2.2.2.2.2.2.2.1,x15.2.2.2.2.2.2.2.2.2.1,x15.2.2.2.2.2.2.2.2.2.2.1,x15.2.2.2.2.2.2.2.2.2.2.2.1,x15.2.2.2.2.2.2.2.2.2.2.2.2.1,x15.2.2.2.2.2.2.2.2.2.2.2.2.2.1,x15.2.2.2.2.2.2.2.2.2.2.2.2.2.2.1,x15.2.2.2.2.2.2.2.2.2.2.2.2.2.2.2)) fun x16=>ja (Vk nn x8.2.2.2.2.1 x11) fun x17=>ifB (decide ((x17.length:Int)=0)) (ja (qz x8.2.2.2.2.2.2.2.2.2.1.length x8.2.2.2.1) fun x18=>ja (Zg x8.2.2.2.2.2.2.2.2.2.1 x18 (-1)) fun x19=>x16 (x8.1,x8.2.1,x8.2.2.1,x8.2.2.2.1,x8.2.2.2.2.1,x8.2.2.2.2.2.1,x8.2.2.2.2.2.2.1,x8.2.2.2.2.2.2.2.1,x8.2.2.2.2.2.2.2.2.1,x19,x8.2.2.2.2.2.2.2.2.2.2.1,x8.2.2.2.2.2.2.2.2.2.2.2.1,x8.2.2.2.2.2.2.2.2.2.2.2.2.1,x8.2.2.2.2.2.2.2.2.2.2.2.2.2.1,x8.2.2.2.2.2.2.2.2.2.2.2.2.2.2.1,x8.2.2.2.2.2.2.2.2.2.2.2.2.2.2.2)) (ja (V5 nn x17) fun x20=>ja (some (Qx zw9 x8.2.2.2.2.2.2.2.2.2.2.2.2.2.2.2 x20)) fun x21=>J (fun(x22:Int×(List ((List UInt8)×Int×Unit))×(List (List Int)))=>ja (qz x8.2.2.2.2.2.2.2.2.2.1.length x8.2.2.2.1) fun x24=>ja (Zg x8.2.2.2.2.2.2.2.2.2.1 x24 x22.1) fun x25=>x16 (x8.1,x8.2.1,x8.2.2.1,x8.2.2.2.1,x8.2.2.2.2.1,x8.2.2.2.2.2.1,x8.2.2.2.2.2.2.1,x8.2.2.2.2.2.2.2.1,x8.2.2.2.2.2.2.2.2.1,x25,x8.2.2.2.2.2.2.2.2.2.2.1,x8.2.2.2.2.2.2.2.2.2.2.2.1,x8.2.2.2.2.2.2.2.2.2.2.2.2.1,x8.2.2.2.2.2.2.2.2.2.2.2.2.2.1,x22.2.2,x22.2.1)) fun x23=>ifB (!x21.isSome) (ja (some (x8.2.2.2.2.2.2.2.2.2.2.2.2.2.2.1.length:Int)) fun x26=>ja (some (zau zw9 x8.2.2.2.2.2.2.2.2.2.2.2.2.2.2.2 x20 x26)) fun x27=>ja (apO 24 x8.2.2.2.2.2.2.2.2.2.2.2.2.2.2.1 [x17]) fun x28=>x23 (x26,x27,x28)) (x23 (gD 0 x21,x8.2.2.2.2.2.2.2.2.2.2.2.2.2.2.2,x8.2.2.2.2.2.2.2.2.2.2.2.2.2.2.1)))) (J (fun(x29:Int×Int×Int×Int×js×(Arr 256 Int)×Int×(Arr 256 Int)×Int×(List Int)×(List (List Int))×(List Int)×(List (List Int))×(List Int)×(List (List Int))×(List ((List UInt8)×Int×Unit)))=>x13 (x29.1,x29.2.1,x29.2.2.1,x29.2.2.2.1,x29.2.2.2.2.1,x29.2.2.2.2.2.1,x29.2.2.2.2.2.2.1,x29.2.2.2.2.2.2.2.1,x29.2.2.2.2.2.2.2.2.1,x29.2.2.2.2.2.2.2.2.2.1,x29.2.2.2.2.2.2.2.2.2.2.1,x29.2.2.2.2.2.2.2.2.2.2.2.1,x29.2.2.2.2.2.2.2.2.2.2.2.2.1,x29.2.2.2.2.2.2.2.2.2.2.2.2.2.1,x29.2.2.2.2.2.2.2.2.2.2.2.2.2.2.1,x29.2.2.2.2.2.2.2.2.2.2.2.2.2.2.2)) fun x30=>ja (qz x8.2.2.2.2.2.2.2.2.2.2.2.2.2.2.1.length x8.2.1) fun x31=>ja (atL x8.2.2.2.2.2.2.2.2.2.2.2.2.2.2.1 x31) fun x32=>ja (Yy nn x8.2.2.2.2.1 x32 x11) fun x33=>ifB (decide ((x33.length:Int)=0)) (ja (qz x8.2.2.2.2.2.2.2.2.2.1.length x8.2.2.2.1) fun x34=>ja (Zg x8.2.2.2.2.2.2.2.2.2.1 x34 (-1)) fun x35=>x30 (x8.1,x8.2.1,x8.2.2.1,x8.2.2.2.1,x8.2.2.2.2.1,x8.2.2.2.2.2.1,x8.2.2.2.2.2.2.1,x8.2.2.2.2.2.2.2.1,x8.2.2.2.2.2.2.2.2.1,x35,x8.2.2.2.2.2.2.2.2.2.2.1,x8.2.2.2.2.2.2.2.2.2.2.2.1,x8.2.2.2.2.2.2.2.2.2.2.2.2.1,x8.2.2.2.2.2.2.2.2.2.2.2.2.2.1,x8.2.2.2.2.2.2.2.2.2.2.2.2.2.2.1,x8.2.2.2.2.2.2.2.2.2.2.2.2.2.2.2)) (ja (V5 nn x33) fun x36=>ja (some (Qx zw9 x8.2.2.2.2.2.2.2.2.2.2.2.2.2.2.2 x36)) fun x37=>J (fun(x38:Int×(List ((List UInt8)×Int×Unit))×(List (List Int)))=>ja (qz x8.2.2.2.2.2.2.2.2.2.1.length x8.2.2.2.1) fun x40=>ja (Zg x8.2.2.2.2.2.2.2.2.2.1 x40 x38.1) fun x41=>x30 (x8.1,x8.2.1,x8.2.2.1,x8.2.2.2.1,x8.2.2.2.2.1,x8.2.2.2.2.2.1,x8.2.2.2.2.2.2.1,x8.2.2.2.2.2.2.2.1,x8.2.2.2.2.2.2.2.2.1,x41,x8.2.2.2.2.2.2.2.2.2.2.1,x8.2.2.2.2.2.2.2.2.2.2.2.1,x8.2.2.2.2.2.2.2.2.2.2.2.2.1,x8.2.2.2.2.2.2.2.2.2.2.2.2.2.1,x38.2.2,x38.2.1)) fun x39=>ifB (!x37.isSome) (ja (some (x8.2.2.2.2.2.2.2.2.2.2.2.2.2.2.1.length:Int)) fun x42=>ja (some (zau zw9 x8.2.2.2.2.2.2.2.2.2.2.2.2.2.2.2 x36 x42)) fun x43=>ja (apO 24 x8.2.2.2.2.2.2.2.2.2.2.2.2.2.2.1 [x33]) fun x44=>x39 (x42,x43,x44)) (x39 (gD 0 x37,x8.2.2.2.2.2.2.2.2.2.2.2.2.2.2.2,x8.2.2.2.2.2.2.2.2.2.2.2.2.2.2.1))))) (ja (apO 24 x8.2.2.2.2.2.2.2.2.2.2.2.2.1 [x8.2.2.2.2.2.2.2.2.2.1]) fun x45=>ja (qz x8.2.2.2.2.2.2.2.2.2.2.2.2.2.2.1.length x8.2.1) fun x46=>ja (atL x8.2.2.2.2.2.2.2.2.2.2.2.2.2.2.1 x46) fun x47=>ja (Zp nn x8.2.2.2.2.1 x47) fun x48=>ja (apO 8 x8.2.2.2.2.2.2.2.2.2.2.2.2.2.1 [x48]) fun x49=>ja (some (w64 (x8.2.1+1))) fun x50=>x6 (x8.1,x50,x8.2.2.2.2.1,x8.2.2.2.2.2.1,x8.2.2.2.2.2.2.1,x8.2.2.2.2.2.2.2.1,x8.2.2.2.2.2.2.2.2.1,x8.2.2.2.2.2.2.2.2.2.2.1,x8.2.2.2.2.2.2.2.2.2.2.2.1,x45,x49,x8.2.2.2.2.2.2.2.2.2.2.2.2.2.2.1,x8.2.2.2.2.2.2.2.2.2.2.2.2.2.2.2))) nn (x5.1,x5.2.1,((List.replicate x7 (0:Int)).length:Int),0,x5.2.2.1,x5.2.2.2.1,x5.2.2.2.2.1,x5.2.2.2.2.2.1,x5.2.2.2.2.2.2.1,(List.replicate x7 (0:Int)),x5.2.2.2.2.2.2.2.1,x5.2.2.2.2.2.2.2.2.1,x5.2.2.2.2.2.2.2.2.2.1,x5.2.2.2.2.2.2.2.2.2.2.1,x5.2.2.2.2.2.2.2.2.2.2.2.1,x5.2.2.2.2.2.2.2.2.2.2.2.2)) (some ((x5.2.2.2.2.2.1,x5.2.2.2.2.2.2.1,x5.2.2.2.2.2.2.2.2.2.1,x5.2.2.2.2.2.2.2.2.2.2.1,()),(x5.2.2.2.2.2.2.2.2.2.2.2.1.length:Int),0,()))) nn (x2.1,0,x2.2.2.1,x2.2.2.2.1,x2.2.2.2.2.1,x4.1,x4.2.1,x2.2.2.2.2.2.1,x2.2.2.2.2.2.2,[],[],[[]],[]))) fun x3=>ja (some (decide (a1<1))) fun x51=>ifB x51 (x3 (a1,true,a0,⟨List.replicate 256 0,List.length_replicate⟩,0,[],[])) (x3 (a1,decide (4096<a1),a0,⟨List.replicate 256 0,List.length_replicate⟩,0,[],[])))
noncomputable def zwx:=lk (α:=HK) [(102, .meet ⟨[(1, .v (.int .i64)),(2, .pt 0 0),(4, .pt 1 0),(20, .v .bool)],[(0, .box 61 [.v j9]),(1, .box 33 [.v (.arr 256 (.int .u8)), .v (.int .i64), .own 2, .own 3]),(2, .row 31 (.sl (.int .i64))),(3, .row 3 (.int .i64))],4⟩),(1018, .meet ⟨[(1, .v (.int .i64)),(2, .pt 0 0),(4, .pt 1 0),(7, .pt 2 0),(8, .pt 3 0),(10, .fn 151 [] [.pt 4 0, .pt 3 0]),(11, .v (.int .i64))],[(0, .box 61 [.v j9]),(1, .box 33 [.v (.arr 256 (.int .u8)), .v (.int .i64), .own 5, .own 6]),(2, .box 33 [.v (.arr 256 (.int .u8)), .v (.int .i64), .own 7, .own 8]),(3, .box 30 [.own 9]),(4, .box 175 [.own 10]),(5, .row 31 (.sl (.int .i64))),(6, .row 3 (.int .i64)),(7, .row 31 (.sl (.int .i64))),(8, .row 3 (.int .i64)),(9, .row 31 (.sl (.int .i64))),(10, .obj (.mp .str (.int .i64)))],11⟩),(260682, .meet ⟨[(1, .v (.int .i64)),(2, .pt 0 0),(4, .pt 1 0),(7, .pt 2 0),(8, .pt 3 0),(10, .fn 151 [] [.pt 4 0, .pt 3 0]),(11, .v (.int .i64)),(12, .own 5),(49, .v (.int .i64)),(50, .v (.int .i64))],[(0, .box 61 [.v j9]),(1, .box 33 [.v (.arr 256 (.int .u8)), .v (.int .i64), .own 6, .own 7]),(2, .box 33 [.v (.arr 256 (.int .u8)), .v (.int .i64), .own 8, .own 9]),(3, .box 30 [.own 10]),(4, .box 175 [.own 11]),(5, .row 3 (.int .i64)),(6, .row 31 (.sl (.int .i64))),(7, .row 3 (.int .i64)),(8, .row 31 (.sl (.int .i64))),(9, .row 3 (.int .i64)),(10, .row 31 (.sl (.int .i64))),(11, .obj (.mp .str (.int .i64)))],12⟩),(33367347, .meet ⟨[(1, .v (.int .i64)),(2, .pt 0 0),(4, .pt 1 0),(7, .pt 2 0),(8, .pt 3 0),(10, .fn 151 [] [.pt 4 0, .pt 3 0]),(11, .v (.int .i64)),(12, .own 5),(49, .v (.int .i64)),(50, .v (.int .i64))],[(0, .box 61 [.v j9]),(1, .box 33 [.v (.arr 256 (.int .u8)), .v (.int .i64), .own 6, .own 7]),(2, .box 33 [.v (.arr 256 (.int .u8)), .v (.int .i64), .own 8, .own 9]),(3, .box 30 [.own 10]),(4, .box 175 [.own 11]),(5, .row 3 (.int .i64)),(6, .row 31 (.sl (.int .i64))),(7, .row 3 (.int .i64)),(8, .row 31 (.sl (.int .i64))),(9, .row 3 (.int .i64)),(10, .row 31 (.sl (.int .i64))),(11, .obj (.mp .str (.int .i64)))],12⟩),(266938778, .meet ⟨[(1, .v (.int .i64)),(2, .pt 0 0),(4, .pt 1 0),(7, .pt 2 0),(8, .pt 3 0),(10, .fn 151 [] [.pt 4 0, .pt 3 0]),(11, .v (.int .i64)),(12, .own 5),(49, .v (.int .i64)),(50, .v (.int .i64))],[(0, .box 61 [.v j9]),(1, .box 33 [.v (.arr 256 (.int .u8)), .v (.int .i64), .own 6, .own 7]),(2, .box 33 [.v (.arr 256 (.int .u8)), .v (.int .i64), .own 8, .own 9]),(3, .box 30 [.own 10]),(4, .box 175 [.own 11]),(5, .row 3 (.int .i64)),(6, .row 31 (.sl (.int .i64))),(7, .row 3 (.int .i64)),(8, .row 31 (.sl (.int .i64))),(9, .row 3 (.int .i64)),(10, .row 31 (.sl (.int .i64))),(11, .obj (.mp .str (.int .i64)))],12⟩),(266938779, .meet ⟨[(1, .v (.int .i64)),(2, .pt 0 0),(4, .pt 1 0),(7, .pt 2 0),(8, .pt 3 0),(10, .fn 151 [] [.pt 4 0, .pt 3 0]),(11, .v (.int .i64)),(12, .own 5),(49, .v (.int .i64)),(50, .v (.int .i64))],[(0, .box 61 [.v j9]),(1, .box 33 [.v (.arr 256 (.int .u8)), .v (.int .i64), .own 6, .own 7]),(2, .box 33 [.v (.arr 256 (.int .u8)), .v (.int .i64), .own 8, .own 9]),(3, .box 30 [.own 10]),(4, .box 175 [.own 11]),(5, .row 3 (.int .i64)),(6, .row 31 (.sl (.int .i64))),(7, .row 3 (.int .i64)),(8, .row 31 (.sl (.int .i64))),(9, .row 3 (.int .i64)),(10, .row 31 (.sl (.int .i64))),(11, .obj (.mp .str (.int .i64)))],12⟩)]
noncomputable def zpq:=lk (α:=HK) [(31, .meet ⟨[(6, .v (.int .i64))],[(0, .box 175 [.own 1]),(1, .obj (.mp .str (.int .i64))),(2, .box 30 [.own 3]),(3, .row 31 (.sl (.int .i64)))],4⟩)]
noncomputable def zpb:=lk (α:=HK) [(31, .meet ⟨[(6, .v (.int .i64))],[(0, .box 175 [.own 1]),(1, .obj (.mp .str (.int .i64))),(2, .box 30 [.own 3]),(3, .row 31 (.sl (.int .i64)))],4⟩)]
noncomputable abbrev zwf (nn:Nat):PF:=⟨[j9,(.int .i64)],(.tup (.cons Y_api_Dfa (.cons (.int .i64) (.cons (.int .i64) .nil)))),fun t=>zbe nn (t.1) (t.2)⟩
set_option maxRecDepth 100000 in
theorem zm5 (nn:Nat):qe 104 (zwf nn):=mk1 Tryz.func104 nn 9 [(0,[22,44,86]),(1,[22]),(2,[22])] [(0,[(36, .own (.sl (.int .i64))),(90, .ownx),(101, .told (.int .i64))]),(1,[(28, .told (.sl (.int .i64)))]),(2,[(28, .told (.sl (.int .i64)))])] [(1476,[(90,(.sl (.sl (.int .i64))))])] [] (itc 11580151 Tryz.func151 zpq 1 [3] (itc 12260151 Tryz.func151 zpb 2 [3] itn (by kernel_rfl)) (by kernel_rfl)) zwx rn gn (tc (Qq nn) (tc (zvb nn) (tc (zql nn) (tc (zla nn) (tc (zk2 nn) (tc (znw nn) (tc (zmf nn) tn))))))) (by kernel_rfl) fun t=>by kernel_rfl
noncomputable def Zo (nn:Nat) (a0:(Arr 256 Int)):Option Bool:=ja (Vh nn a0 (⟨List.replicate 4 0,List.length_replicate⟩)) fun x1=>some (x1.l == a0.l)
noncomputable def zty:=lk (α:=HK) []
noncomputable abbrev zsw (nn:Nat):PF:=⟨[(.arr 256 (.int .u8))], .bool,fun t=>Zo nn t⟩
set_option maxRecDepth 100000 in
theorem zlh (nn:Nat):qe 111 (zsw nn):=mk1 Tryz.func111 nn 0 [] [] [] [] itn zty rn gn (tc (zde nn) tn) (by kernel_rfl) fun t=>by kernel_rfl
noncomputable def p_dfa_Right (nn:Nat) (a0:D_api_Dfa):Option Bool:=ja (some (a0.2.2.1.length:Int)) fun x1=>J (fun(x2:Int×Bool×D_api_Dfa)=>ifB x2.2.1 (some false) (J (fun(x4:Bool)=>some x4) fun x5=>jt (fun(x6:Int×Bool×(List (List Int))×Int×Int×D_api_Dfa) x7=>ifB (decide (x6.2.2.2.2.1<x6.2.2.2.1)) (ja (atL x6.2.2.1 x6.2.2.2.2.1) fun x8=>J (fun(x9:Int×Bool×(List Int)×(List (List Int))×Int×Int×Bool×D_api_Dfa)=>ifB x9.2.2.2.2.2.2.1 (x5 false) (jt (fun(x11:Int×Bool×(List (List Int))×Int×Int×(List Int)×Int×Int×D_api_Dfa) x12=>ifB (decide (x11.2.2.2.2.2.2.2.1<x11.2.2.2.2.2.2.1)) (ja (atL x11.2.2.2.2.2.1 x11.2.2.2.2.2.2.2.1) fun x13=>J (fun(x14:Int×Bool×(List (List Int))×Int×Int×(List Int)×Int×Int×Bool×D_api_Dfa)=>ifB x14.2.2.2.2.2.2.2.2.1 (x5 false) (ja (some (w64 (x14.2.2.2.2.2.2.2.1+1))) fun x16=>x12 (x14.1,x14.2.1,x14.2.2.1,x14.2.2.2.1,x14.2.2.2.2.1,x14.2.2.2.2.2.1,x14.2.2.2.2.2.2.1,x16,x14.2.2.2.2.2.2.2.2.2))) fun x15=>ja (some (decide (x13<(-1)))) fun x17=>ifB x17 (x15 (x11.1,x11.2.1,x11.2.2.1,x11.2.2.2.1,x11.2.2.2.2.1,x11.2.2.2.2.2.1,x11.2.2.2.2.2.2.1,x11.2.2.2.2.2.2.2.1,true,x11.2.2.2.2.2.2.2.2)) (x15 (x11.1,x11.2.1,x11.2.2.1,x11.2.2.2.1,x11.2.2.2.2.1,x11.2.2.2.2.2.1,x11.2.2.2.2.2.2.1,x11.2.2.2.2.2.2.2.1,decide (x11.1≤x13),x11.2.2.2.2.2.2.2.2))) (ja (some (w64 (x11.2.2.2.2.1+1))) fun x18=>x7 (x11.1,x11.2.1,x11.2.2.1,x11.2.2.2.1,x18,x11.2.2.2.2.2.2.2.2))) nn (x9.1,x9.2.1,x9.2.2.2.1,x9.2.2.2.2.1,x9.2.2.2.2.2.1,x9.2.2.1,(x9.2.2.1.length:Int),0,x9.2.2.2.2.2.2.2))) fun x10=>ja (some (decide (¬(x8.length:Int)=x6.2.2.2.2.2.2.1))) fun x19=>ifB x19 (x10 (x6.1,x6.2.1,x8,x6.2.2.1,x6.2.2.2.1,x6.2.2.2.2.1,true,x6.2.2.2.2.2)) (ja (atL x6.2.2.2.2.2.2.2.2.1 x6.2.2.2.2.1) fun x20=>x10 (x6.1,x6.2.1,x8,x6.2.2.1,x6.2.2.2.1,x6.2.2.2.2.1,decide (x20<(-1)),x6.2.2.2.2.2))) (x5 x6.2.1)) nn (x2.1,true,x2.2.2.2.2.1,(x2.2.2.2.2.1.length:Int),0,x2.2.2))) fun x3=>ja (some (decide (x1=0))) fun x21=>ifB x21 (x3 (x1,true,a0)) (ifB (decide (¬(a0.2.2.2.1.length:Int)=x1)) (x3 (x1,true,a0)) (ja (Zo nn a0.1) fun x22=>ifB (!x22) (x3 (x1,true,a0)) (ja (zl nn a0.1) fun x23=>x3 (x1,decide (¬ x23=a0.2.1),a0))))
noncomputable def zwt:=lk (α:=HK) [(52, .meet ⟨[(1, .pt 0 0),(3, .v (.int .i64)),(34, .v .bool)],[(0, .box 33 [.v Y_api_Dfa])],1⟩),(445, .meet ⟨[(4, .v .bool)],[],0⟩),(890, .meet ⟨[(1, .pt 0 0),(3, .v (.int .i64)),(4, .v .bool),(36, .v (.sl (.sl (.int .i64)))),(37, .v (.int .i64)),(38, .v (.int .i64))],[(0, .box 33 [.v Y_api_Dfa])],1⟩),(227940, .meet ⟨[(1, .pt 0 0),(3, .v (.int .i64)),(4, .v .bool),(6, .v (.sl (.int .i64))),(36, .v (.sl (.sl (.int .i64)))),(37, .v (.int .i64)),(38, .v (.int .i64)),(55, .v .bool)],[(0, .box 33 [.v Y_api_Dfa])],1⟩),(455886, .meet ⟨[(1, .pt 0 0),(3, .v (.int .i64)),(4, .v .bool),(36, .v (.sl (.sl (.int .i64)))),(37, .v (.int .i64)),(38, .v (.int .i64)),(56, .v (.sl (.int .i64))),(57, .v (.int .i64)),(58, .v (.int .i64))],[(0, .box 33 [.v Y_api_Dfa])],1⟩),(58353458, .meet ⟨[(1, .pt 0 0),(3, .v (.int .i64)),(4, .v .bool),(36, .v (.sl (.sl (.int .i64)))),(37, .v (.int .i64)),(38, .v (.int .i64)),(56, .v (.sl (.int .i64))),(57, .v (.int .i64)),(58, .v (.int .i64)),(68, .v .bool)],[(0, .box 33 [.v Y_api_Dfa])],1⟩)]
noncomputable abbrev zwe (nn:Nat):PF:=⟨[Y_api_Dfa], .bool,fun t=>p_dfa_Right nn t⟩
set_option maxRecDepth 100000 in
theorem P_dfa_Right_ok (nn:Nat):qe 75 (zwe nn):=mk1 Tryz.func75 nn 0 [(0,[11,13,47,63,69,70])] [] [] [] itn zwt rn gn (tc (zlh nn) (tc (zdb nn) tn)) (by kernel_rfl) fun t=>by kernel_rfl
end Go.Proofs.YtdllbdlnmjngcaaGreat.T
namespace Go.Proofs.YtdllbdlnmjngcaaGreat
open Go Go.RowKit L
set_option maxRecDepth 10000
set_option maxHeartbeats 4000000
set_option linter.unusedSimpArgs false
structure jz where
 zv5:(Arr 256 Int)
 Zz:Int
 jv:(List (List Int))
 yx:(List Int)
def qf (x:jz):PV := .agg (((arV (n:=256) U8) x.zv5).cells++[I x.Zz,ziv x.jv,slI x.yx])
theorem zz (x:jz):NoP (qf x) := .agg _ (nopa (Z6 (jar _ (fun _=>(.u _)))) (zbj (.u _) (zbj (zab _) (zbj (zcf _) (zd5)))))
theorem Yg (x:jz):(qf x).cells.length=259:=(z9m (zs2 _ _ (fun _=>rfl)) rfl)
theorem zc0 (H:PHeap) (x:jz):(qf x).cells.all (qc H)=true:=(jap (arV_lf _ _ _ (fun _=>rfl)) rfl)
theorem Yp (x:jz):qk false 1 ((qf x).cells.drop 257)=some (ziv x.jv):=(ld_r (m:=256) (i:=1) (zs2 _ _ (fun _=>rfl)) rfl)
theorem zqc (x:jz):qk false 1 ((qf x).cells.drop 258)=some (slI x.yx):=(ld_r (m:=256) (i:=2) (zs2 _ _ (fun _=>rfl)) rfl)
def zsa (a:jz):T.D_api_Dfa:=(⟨a.zv5.1,a.zv5.2⟩,a.Zz,a.jv,a.yx,())
theorem flatU8 (l:List Int):l.flatMap (T.encC (.int .u8))=l.map U8:=by
 induction l with
 | nil=>rfl
 | cons a l ih=>rw[List.flatMap_cons,ih];rfl
theorem zj7 (a:jz):T.enc T.Y_api_Dfa (zsa a)=qf a:=by
 cases a with
 | mk c w n l=>
  show PV.agg (c.1.flatMap (T.encC (.int .u8))++_)=PV.agg ((c.1.map U8)++_)
  rw[flatU8]
  rfl
def zmr (a:T.D_api_Dfa):jz:=⟨⟨a.1.l,a.1.h⟩,a.2.1,a.2.2.1,a.2.2.2.1⟩
noncomputable def Qw (a0:jz):G Bool:=fun nn=>T.p_dfa_Right nn (zsa a0)
theorem zfl {nn:Nat} {a0:jz} {r:Bool} (h0:Qw a0 nn=some r):PCall Tryz.prog 75 [qf a0] (· = B r):=by
 have:=(T.P_dfa_Right_ok nn).2 (zsa a0) r h0
 rw[← zj7]
 exact this
noncomputable def Ya (a0:jz) (a1:Int):G (List Int):=
 G.bind (G.lift (idx a0.jv a1)) fun x5=>G.bind (G.loop (σ:=(Int×(List Int))) (α:=(List Int)) (fun(x9,x10)=>G.cond (decide (x9<(x5.length:Int))) (G.bind (α:=(List Int)) (G.bind (G.lift (idx x5 x9)) fun x25=>G.cond (decide (0≤x25)) (G.bind (G.lift (app 8 x10 ([x25]:List Int))) fun x28=>G.pure x28) (G.pure x10)) fun x22=>G.pure (.inl ((w64 (x9+1)),x22))) (G.pure (.inr x10))) (0,[])) fun x33=>G.pure x33
theorem zwk {nn : Nat} {a0 : jz} {a1 : Int} {r : (List Int)} (h0 : Ya a0 a1 nn = some r) : PCall Tryz.prog 115 [qf a0, I a1] (· = PV.fr 3 1 (r.map I)) := by
 unfold Ya at h0
 refine PCall.intro' Tryz.func115 rfl Tryz.ntmps115 (by simp) fun W => A2 0 (e_ (qf a0)) 1 (e_ (I a1)) fun F f0 f1 => ?_
 generalize PHeap.empty = H
 refine SR fun K1 hK1 => q3 (z5j f0 (zc0 _ _)) <| q1 (Js rfl) ?_
 have o1004 : ownL 3 1 I H 1004 (PV.u (.slice none 0 0)) [] := ownL.nil _ _
 refine nl hK1 <| A2 1 f1 2 (e_ (PV.rp (qf a0).cells)) fun F f1 f2 => ?_
 refine SR fun K2 hK2 => q1 (Js rfl) ?_
 have o1004 : ownL 3 1 I H 1004 (PV.u (.slice none 0 0)) [] := ownL.nil _ _
 refine nl hK2 <| A3 1 f1 2 f2 5 (e_ (PV.u (.slice none 0 0))) fun F f1 f2 f5 => ?_
 refine PC.seq fun K3 hK3 => SR fun K4 hK4 => q1 (zoh zg4 Y9 (by decide) f2) <| q1 (zg8 Y9 rfl (Yp a0)) <| m_ f1 <| bk h0 fun x5 hx5 h0 => q1 (zc1 (rep := slI) (xs := a0.jv) zdn rfl rfl hx5) <| q1 (zea zcd rfl) <| q1 (zd9 (rep := I) (xs := x5) Yd rfl) <| m_ (e_ (I 0)) <| nl hK4 <| A4 5 f5 12 (e_ (slI x5)) 13 (e_ (I (x5.length : Int))) 14 (e_ (I 0)) fun F f5 f12 f13 f14 => ?_
 refine PC.block <| bk h0 fun o12 ho12 h0 => ?_
 obtain ⟨B13, hB13, ho12⟩ := G.loop_some ho12
 refine PC.loop (fun m16 F H => ∃ s36 : (Int × (List Int)), ∃ q11, zao B13 m16 s36 = some o12 ∧ F 5 = q11 ∧ F 12 = (slI x5) ∧ F 13 = (I (x5.length : Int)) ∧ F 14 = (I s36.1) ∧ ownL 3 1 I H 1004 q11 s36.2) (m := nn) ⟨(0, []), (PV.u (.slice none 0 0)), ho12, f5, f12, f13, f14, o1004⟩ fun m16 F H hI => ?_
 obtain ⟨⟨x9, x10⟩, q11, ho12, f5, f12, f13, f14, o1004⟩ := hI
 obtain ⟨m16, rfl, st14, hs15, ho12⟩ := V8 ho12
 rw [hB13] at hs15
 try dsimp only at hs15
 refine SR fun K17 hK17 => q1 (V3 rfl f14 f13 zbq) <| nl hK17 <| A5 5 f5 12 f12 13 f13 14 f14 15 (e_ (B (decide (x9 < (x5.length : Int))))) fun F f5 f12 f13 f14 f15 => ?_
 refine PC.seq fun K18 hK18 => ?_
 refine cd f15 hs15 (fun hb19 hs15 => ?_) fun hb19 hs15 => ?_
 refine sk hK18 <| A4 5 f5 12 f12 13 f13 14 f14 fun F f5 f12 f13 f14 => ?_
 obtain ⟨o21, ho21, hs15⟩ := bs hs15
 refine PC.seqM (fun F H => ∃ s31 : (List Int), ∃ q23, o21 = s31 ∧ F 5 = q23 ∧ F 12 = (slI x5) ∧ F 13 = (I (x5.length : Int)) ∧ F 14 = (I x9) ∧ ownL 3 1 I H 1004 q23 s31) ?_ ?_
 refine PC.block <| SR fun K24 hK24 => bk ho21 fun x25 hx25 ho21 => q1 (zc1 (rep := I) (xs := x5) zal f12 f14 hx25) <| q1 (zea zkm rfl) <| q1 (Js (e_ (I x25))) <| nl hK24 <| A5 5 f5 7 (e_ (I x25)) 12 f12 13 f13 14 f14 fun F f5 f7 f12 f13 f14 => ?_
 refine SR fun K26 hK26 => m_ f7 <| q1 (V3 rfl rfl rfl zm2) <| nl hK26 <| A6 5 f5 7 f7 12 f12 13 f13 14 f14 19 (e_ (B (decide (0 ≤ x25)))) fun F f5 f7 f12 f13 f14 f19 => ?_
 refine cd f19 ho21 (fun hb27 ho21 => ?_) fun hb27 ho21 => ?_
 refine PC.region <| m_ f5 <| m_ f7 <| q3 (zxl (rep := I) (xs := [x25]) zw rfl (by decide) (bm (e_ (I x25)) (bm0)) rfl rfl) <| bk ho21 fun x28 hx28 ho21 => PL.appG (rep := I) (ys := ([x25] : List Int)) rfl rfl rfl (by decide) zw (e_ q11) o1004 (e_ (slI ([x25] : List Int))) (fun _ => rfl) (lf1 (fun _ => rfl) (fun _ => rfl)) hx28 fun q29 H o1004 fz30 => q1 (Js (e_ q29)) <| PL.nil ?_
 obtain rfl := pz ho21
 exact ⟨x28, q29, rfl, (e_ q29), f12, f13, f14, o1004⟩
 refine PC.skip ?_
 obtain rfl := pz ho21
 exact ⟨x10, q11, rfl, f5, f12, f13, f14, o1004⟩
 intro F H hI
 obtain ⟨x22, q23, ho, f5, f12, f13, f14, o1004⟩ := hI
 have ho := ho.symm
 subst ho
 try dsimp only at hs15
 refine PC.region <| q1 (V3 rfl f14 rfl znb) <| m_ (e_ (I (w64 (x9 + 1)))) <| PL.nil ?_
 obtain rfl := pz hs15
 exact ⟨m16, Nat.lt_succ_self _, _, q23, ho12, f5, f12, f13, rfl, o1004⟩
 refine PC.exit ?_
 obtain rfl := pz hs15
 try dsimp only at ho12
 subst ho12
 try dsimp only at h0
 refine hK3 _ _ <| A1 5 f5 fun F f5 => ?_
 refine SR fun K32 hK32 => m_ f5 <| q1 (Js (e_ q11)) <| nl hK32 <| A1 4 (e_ q11) fun F f4 => ?_
 refine PC.ret ?_
 obtain rfl := pz h0
 exact ja4 (.inr rfl) (zaw Tryz.results115 f4) o1004 (fun _ => rfl)
theorem zkg {nn:Nat} {a0:jz} {a1:Int} {r:(List Int)} (h0:Ya a0 a1 nn=some r):PCall Tryz.prog 115 [qf a0,I a1] (· = slI r):=(zwk h0).forget
noncomputable def ze (a0:Int) (c0:jz):G (List Int):=
 G.bind (Ya c0 a0) fun x3=>G.pure x3
theorem zfp {nn : Nat} {a0 : Int} {c0 : jz} {r : (List Int)} (h0 : ze a0 c0 nn = some r) : PCall Tryz.prog 114 [I a0, PV.rp (qf c0).cells] (· = slI r) := by
 unfold ze at h0
 refine PCall.intro' Tryz.func114 rfl Tryz.ntmps114 (by simp) fun W => A2 0 (e_ (I a0)) 1 (e_ (PV.rp (qf c0).cells)) fun F f0 f1 => ?_
 generalize PHeap.empty = H
 refine SR fun K1 hK1 => q3 (zjb (k := 1)) <| nl hK1 <| A2 0 f0 1 f1 fun F f0 f1 => ?_
 refine SR fun K2 hK2 => q1 (zte zua f1 (Yg _)) <| m_ f0 <| bk h0 fun x3 hx3 h0 => q3 (zsb (by kernel_rfl) (am rfl (am rfl (am0))) (zbj (zz _) (zbj (.u _) (zd5))) (zkg hx3)) <| q1 (Js (e_ (slI x3))) <| nl hK2 <| A1 3 (e_ (slI x3)) fun F f3 => ?_
 refine PC.ret ?_
 obtain rfl := pz h0
 exact fin (.inr rfl) (zaw Tryz.results114 f3) (zcf _)
noncomputable def z7 (a0:Int) (a1:(List Int)) (a2:Int→G (List Int)):G (List Bool):=
 G.bind (G.lift (mkS 1 (false:Bool) a0)) fun x3=>G.bind (G.lift (small7 a1 a1)) fun x7=>G.bind (G.loop (σ:=(Int×(List Bool))) (α:=(List Bool)) (fun(x17,x18)=>G.cond (decide (x17<(a1.length:Int))) (G.bind (G.lift (idx a1 x17)) fun x30=>G.bind (G.lift (idx x18 x30)) fun x31=>G.pure (.inl ((w64 (x17+1)),(x18.set (x30:Int).toNat true)))) (G.pure (.inr x18))) (0,x3)) fun x106=>G.bind (G.loop (σ:=((List Bool)×(List Int))) (α:=(List Bool)) (fun(x113,x115)=>G.cond (decide (0<(x115.length:Int))) (G.bind (G.lift (idx x115 0)) fun x126=>G.bind (G.lift (z25 x115 1 (x115.length:Int))) fun x129=>G.bind (a2 x126) fun x132=>G.bind (G.loop (σ:=(Int×(List Bool)×(List Int))) (α:=((List Bool)×(List Int))) (fun(x138,x139,x141)=>G.cond (decide (x138<(x132.length:Int))) (G.bind (α:=((List Bool)×(List Int))) (G.bind (G.lift (idx x132 x138)) fun x158=>G.bind (G.lift (idx x139 x158)) fun x160=>G.cond (!x160) (G.bind (G.lift (idx x139 x158)) fun x163=>G.bind (G.lift (app 8 x141 ([x158]:List Int))) fun x165=>G.pure ((x139.set (x158:Int).toNat true),x165)) (G.pure (x139,x141))) fun(x153,x155)=>G.pure (.inl ((w64 (x138+1)),x153,x155))) (G.pure (.inr (x139,x141)))) (0,x113,x129)) fun(x169,x171)=>G.pure (.inl (x169,x171))) (G.pure (.inr x113))) (x106,x7)) fun x176=>G.pure x176
theorem zda {nn : Nat} {a0 : Int} {a1 : (List Int)} {a2 : Int → G (List Int)} {a2_f : Nat} {a2_A a2_B : List PV} (a2_na : ∀ p ∈ a2_A, NoP p) (a2_nb : ∀ p ∈ a2_B, NoP p) (a2_g : ya Tryz.prog a2_f = true) (a2_w : ∀ {nn : Nat} {x0 : Int} {r : (List Int)}, a2 x0 nn = some r → PCall Tryz.prog a2_f (a2_A ++ [I x0] ++ a2_B) (· = slI r)) {r : (List Bool)} (h0 : z7 a0 a1 a2 nn = some r) : PCall Tryz.prog 113 [I a0, slI a1, PV.fn (.func a2_f) a2_A a2_B] (· = slB r) := by
 unfold z7 at h0
 refine PCall.intro' Tryz.func113 rfl Tryz.ntmps113 (by simp) fun W => A3 0 (e_ (I a0)) 1 (e_ (slI a1)) 2 (e_ (PV.fn (.func a2_f) a2_A a2_B)) fun F f0 f1 f2 => ?_
 generalize PHeap.empty = H
 refine SR fun K1 hK1 => q1 (Js rfl) ?_
 have o1006 : ownL 4 1 B H 1006 (PV.u (.slice none 0 0)) [] := ownL.nil _ _
 refine nl hK1 <| A3 0 f0 1 f1 2 f2 fun F f0 f1 f2 => ?_
 refine SR fun K2 hK2 => m_ f0 <| bk h0 fun x3 hx3 h0 => PL.mkS (rep := B) 1006 rfl rfl rfl (by decide) z9c rfl rfl (e_ (I a0)) hx3 fun q4 H o1006 fz5 => q1 (Js (e_ q4)) <| nl hK2 <| A3 1 f1 2 f2 7 (e_ q4) fun F f1 f2 f7 => ?_
 refine SR fun K6 hK6 => m_ f1 <| bk h0 fun x7 hx7 h0 => PL.cloneI 1008 rfl rfl rfl (by decide) (e_ (slI a1)) hx7 fun q8 H o1008 fz9 => have o1006 := o1006.mono (fz9 1006 (by decide)); ?_
 have o1008 : ownQ 3 1 I H 1008 q8 x7 := .inl o1008
 refine q1 (Js (e_ q8)) <| nl hK6 <| A4 1 f1 2 f2 7 f7 8 (e_ q8) fun F f1 f2 f7 f8 => ?_
 refine PC.seq fun K10 hK10 => SR fun K11 hK11 => m_ f1 <| q1 (zd9 (rep := I) (xs := a1) Yd rfl) <| m_ (e_ (I 0)) <| nl hK11 <| A6 2 f2 7 f7 8 f8 18 (e_ (slI a1)) 19 (e_ (I (a1.length : Int))) 20 (e_ (I 0)) fun F f2 f7 f8 f18 f19 f20 => ?_
 refine PC.block <| bk h0 fun o20 ho20 h0 => ?_
 obtain ⟨B21, hB21, ho20⟩ := G.loop_some ho20
 refine PC.loop (fun m24 F H => ∃ s181 : (Int × (List Bool)), ∃ q19, zao B21 m24 s181 = some o20 ∧ F 2 = (PV.fn (.func a2_f) a2_A a2_B) ∧ F 7 = q19 ∧ F 8 = q8 ∧ F 18 = (slI a1) ∧ F 19 = (I (a1.length : Int)) ∧ F 20 = (I s181.1) ∧ ownL 4 1 B H 1006 q19 s181.2 ∧ ownQ 3 1 I H 1008 q8 x7) (m := nn) ⟨(0, x3), q4, ho20, f2, f7, f8, f18, f19, f20, o1006, o1008⟩ fun m24 F H hI => ?_
 obtain ⟨⟨x17, x18⟩, q19, ho20, f2, f7, f8, f18, f19, f20, o1006, o1008⟩ := hI
 obtain ⟨m24, rfl, st22, hs23, ho20⟩ := V8 ho20
 rw [hB21] at hs23
 try dsimp only at hs23
 refine SR fun K25 hK25 => q1 (V3 rfl f20 f19 zbq) <| nl hK25 <| A7 2 f2 7 f7 8 f8 18 f18 19 f19 20 f20 21 (e_ (B (decide (x17 < (a1.length : Int))))) fun F f2 f7 f8 f18 f19 f20 f21 => ?_
 refine PC.seq fun K26 hK26 => ?_
 refine cd f21 hs23 (fun hb27 hs23 => ?_) fun hb27 hs23 => ?_
 refine sk hK26 <| A6 2 f2 7 f7 8 f8 18 f18 19 f19 20 f20 fun F f2 f7 f8 f18 f19 f20 => ?_
 refine PC.seq fun K28 hK28 => PC.block <| SR fun K29 hK29 => bk hs23 fun x30 hx30 hs23 => q1 (zc1 (rep := I) (xs := a1) zal f18 f20 hx30) <| q1 (zea zkm rfl) <| q1 (Js (e_ (I x30))) <| nl hK29 <| A7 2 f2 7 f7 8 f8 10 (e_ (I x30)) 18 f18 19 f19 20 f20 fun F f2 f7 f8 f10 f18 f19 f20 => ?_
 refine PC.region <| m_ f7 <| m_ f10 <| bk hs23 fun x31 hx31 hs23 => q1 (zmt (rep := B) z06 o1006 rfl rfl hx31) <| PL.stO (rep := B) (v := true) rfl rfl (fun _ h => by cases h) (e_ (PV.pp 1006 ((x30 : Int).toNat * 1) (Zm q19))) o1006 z8j hx31 (e_ (B true)) (fun _ => rfl) fun H o1006 fz32 => have o1008 := o1008.mono (fz32 1008 (by decide)); nl hK28 <| A6 2 f2 7 f7 8 f8 18 f18 19 f19 20 f20 fun F f2 f7 f8 f18 f19 f20 => ?_
 refine PC.region <| q1 (V3 rfl f20 rfl znb) <| m_ (e_ (I (w64 (x17 + 1)))) <| PL.nil ?_
 obtain rfl := pz hs23
 exact ⟨m24, Nat.lt_succ_self _, _, q19, ho20, f2, f7, f8, f18, f19, rfl, o1006, o1008⟩
 refine PC.exit ?_
 obtain rfl := pz hs23
 try dsimp only at ho20
 subst ho20
 try dsimp only at h0
 refine hK10 _ _ <| A3 2 f2 7 f7 8 f8 fun F f2 f7 f8 => ?_
 refine PC.seq fun K33 hK33 => PC.block <| bk h0 fun o42 ho42 h0 => ?_
 obtain ⟨B43, hB43, ho42⟩ := G.loop_some ho42
 refine PC.loop (fun m46 F H => ∃ s105 : ((List Bool) × (List Int)), ∃ q39, ∃ q41, zao B43 m46 s105 = some o42 ∧ F 2 = (PV.fn (.func a2_f) a2_A a2_B) ∧ F 7 = q39 ∧ F 8 = q41 ∧ ownL 4 1 B H 1006 q39 s105.1 ∧ ownQ 3 1 I H 1008 q41 s105.2) (m := nn) ⟨(x18, x7), q19, q8, ho42, f2, f7, f8, o1006, o1008⟩ fun m46 F H hI => ?_
 obtain ⟨⟨x38, x40⟩, q39, q41, ho42, f2, f7, f8, o1006, o1008⟩ := hI
 obtain ⟨m46, rfl, st44, hs45, ho42⟩ := V8 ho42
 rw [hB43] at hs45
 try dsimp only at hs45
 refine PC.seq fun K47 hK47 => SR fun K48 hK48 => m_ f8 <| q3 (q_len Yd o1008 (e_ q41)) <| q1 (V3 rfl rfl rfl zyb) <| nl hK48 <| A4 2 f2 7 f7 8 f8 30 (e_ (B (decide (0 < (x40.length : Int))))) fun F f2 f7 f8 f30 => ?_
 refine cd f30 hs45 (fun hb49 hs45 => ?_) fun hb49 hs45 => ?_
 refine sk hK47 <| A3 2 f2 7 f7 8 f8 fun F f2 f7 f8 => ?_
 refine PC.block <| SR fun K50 hK50 => m_ f8 <| bk hs45 fun x51 hx51 hs45 => PL.ex rfl (Vf (by decide)) (q_idx (rep := I) zal (fun _ => rfl) o1008 (e_ q41) (e_ (I 0)) hx51) fun p52 ⟨csp52, hlp52, h1p52, h2p52⟩ => q1 (q_ld1 zkm (e_ p52) hlp52 (h1p52 _ rfl)) <| q1 (Js (e_ (I x51))) <| nl hK50 <| A4 2 f2 7 f7 8 f8 11 (e_ (I x51)) fun F f2 f7 f8 f11 => ?_
 refine SR fun K53 hK53 => m_ f8 <| bk hs45 fun x54 hx54 hs45 => PL.ex rfl (Vf (by decide)) (q_from (rep := I) zal (fun _ => rfl) o1008 (e_ q41) (e_ (I 1)) hx54 (by decide)) fun q55 o1008 => q1 (Js (e_ q55)) <| nl hK53 <| A4 2 f2 7 f7 8 (e_ q55) 11 f11 fun F f2 f7 f8 f11 => ?_
 refine SR fun K56 hK56 => m_ f2 <| m_ f11 <| bk hs45 fun x57 hx57 hs45 => q3 (callv (e_ (PV.fn (.func a2_f) a2_A a2_B)) a2_g (am (e_ (I x51)) (am0)) (nopa (nopa a2_na (zbj (.u _) (zd5))) a2_nb) (a2_w hx57)) <| q1 (zd9 (rep := I) (xs := x57) Yd rfl) <| m_ (e_ (I 0)) <| nl hK56 <| A6 2 f2 7 f7 8 f8 38 (e_ (slI x57)) 39 (e_ (I (x57.length : Int))) 40 (e_ (I 0)) fun F f2 f7 f8 f38 f39 f40 => ?_
 refine PC.block <| bk hs45 fun o68 ho68 hs45 => ?_
 obtain ⟨B69, hB69, ho68⟩ := G.loop_some ho68
 refine PC.loop (fun m72 F H => ∃ s98 : (Int × (List Bool) × (List Int)), ∃ q65, ∃ q67, zao B69 m72 s98 = some o68 ∧ F 2 = (PV.fn (.func a2_f) a2_A a2_B) ∧ F 7 = q65 ∧ F 8 = q67 ∧ F 38 = (slI x57) ∧ F 39 = (I (x57.length : Int)) ∧ F 40 = (I s98.1) ∧ ownL 4 1 B H 1006 q65 s98.2.1 ∧ ownQ 3 1 I H 1008 q67 s98.2.2) (m := nn) ⟨(0, x38, x54), q39, q55, ho68, f2, f7, f8, f38, f39, f40, o1006, o1008⟩ fun m72 F H hI => ?_
 obtain ⟨⟨x63, x64, x66⟩, q65, q67, ho68, f2, f7, f8, f38, f39, f40, o1006, o1008⟩ := hI
 obtain ⟨m72, rfl, st70, hs71, ho68⟩ := V8 ho68
 rw [hB69] at hs71
 try dsimp only at hs71
 refine SR fun K73 hK73 => q1 (V3 rfl f40 f39 zbq) <| nl hK73 <| A7 2 f2 7 f7 8 f8 38 f38 39 f39 40 f40 41 (e_ (B (decide (x63 < (x57.length : Int))))) fun F f2 f7 f8 f38 f39 f40 f41 => ?_
 refine PC.seq fun K74 hK74 => ?_
 refine cd f41 hs71 (fun hb75 hs71 => ?_) fun hb75 hs71 => ?_
 refine sk hK74 <| A6 2 f2 7 f7 8 f8 38 f38 39 f39 40 f40 fun F f2 f7 f8 f38 f39 f40 => ?_
 obtain ⟨o77, ho77, hs71⟩ := bs hs71
 refine PC.seqM (fun F H => ∃ s93 : ((List Bool) × (List Int)), ∃ q79, ∃ q81, o77 = s93 ∧ F 2 = (PV.fn (.func a2_f) a2_A a2_B) ∧ F 7 = q79 ∧ F 8 = q81 ∧ F 38 = (slI x57) ∧ F 39 = (I (x57.length : Int)) ∧ F 40 = (I x63) ∧ ownL 4 1 B H 1006 q79 s93.1 ∧ ownQ 3 1 I H 1008 q81 s93.2) ?_ ?_
 refine PC.block <| SR fun K82 hK82 => bk ho77 fun x83 hx83 ho77 => q1 (zc1 (rep := I) (xs := x57) zal f38 f40 hx83) <| q1 (zea zkm rfl) <| q1 (Js (e_ (I x83))) <| nl hK82 <| A7 2 f2 7 f7 8 f8 13 (e_ (I x83)) 38 f38 39 f39 40 f40 fun F f2 f7 f8 f13 f38 f39 f40 => ?_
 refine SR fun K84 hK84 => m_ f7 <| m_ f13 <| bk ho77 fun x85 hx85 ho77 => q1 (zmt (rep := B) z06 o1006 rfl rfl hx85) <| q1 (st_ldO z8j rfl o1006 hx85) <| q1 (z04 rfl) <| nl hK84 <| A8 2 f2 7 f7 8 f8 13 f13 38 f38 39 f39 40 f40 48 (e_ (B (!x85))) fun F f2 f7 f8 f13 f38 f39 f40 f48 => ?_
 refine cd f48 ho77 (fun hb86 ho77 => ?_) fun hb86 ho77 => ?_
 refine SR fun K87 hK87 => m_ f7 <| m_ f13 <| bk ho77 fun x88 hx88 ho77 => q1 (zmt (rep := B) z06 o1006 rfl rfl hx88) <| PL.stO (rep := B) (v := true) rfl rfl (fun _ h => by cases h) (e_ (PV.pp 1006 ((x83 : Int).toNat * 1) (Zm q65))) o1006 z8j hx88 (e_ (B true)) (fun _ => rfl) fun H o1006 fz89 => have o1008 := o1008.mono (fz89 1008 (by decide)); nl hK87 <| A7 2 f2 7 f7 8 f8 13 f13 38 f38 39 f39 40 f40 fun F f2 f7 f8 f13 f38 f39 f40 => ?_
 refine PC.region <| m_ f8 <| m_ f13 <| q3 (zxl (rep := I) (xs := [x83]) zw rfl (by decide) (bm (e_ (I x83)) (bm0)) rfl rfl) <| bk ho77 fun x90 hx90 ho77 => PL.appQ (rep := I) (ys := ([x83] : List Int)) rfl rfl rfl (by decide) zw (e_ q67) o1008 (e_ (slI ([x83] : List Int))) (fun _ => rfl) (lf1 (fun _ => rfl) (fun _ => rfl)) hx90 fun q91 H o1008 fz92 => have o1006 := o1006.mono (fz92 1006 (by decide)); q1 (Js (e_ q91)) <| PL.nil ?_
 obtain rfl := pz ho77
 exact ⟨((x64.set (x83 : Int).toNat true), x90), q65, q91, rfl, f2, f7, (e_ q91), f38, f39, f40, o1006, o1008⟩
 refine PC.skip ?_
 obtain rfl := pz ho77
 exact ⟨(x64, x66), q65, q67, rfl, f2, f7, f8, f38, f39, f40, o1006, o1008⟩
 intro F H hI
 obtain ⟨⟨x78, x80⟩, q79, q81, ho, f2, f7, f8, f38, f39, f40, o1006, o1008⟩ := hI
 have ho := ho.symm
 subst ho
 try dsimp only at hs71
 refine PC.region <| q1 (V3 rfl f40 rfl znb) <| m_ (e_ (I (w64 (x63 + 1)))) <| PL.nil ?_
 obtain rfl := pz hs71
 exact ⟨m72, Nat.lt_succ_self _, _, q79, q81, ho68, f2, f7, f8, f38, f39, rfl, o1006, o1008⟩
 refine PC.exit ?_
 obtain rfl := pz hs71
 try dsimp only at ho68
 subst ho68
 try dsimp only at hs45
 obtain rfl := pz hs45
 exact ⟨m46, Nat.lt_succ_self _, _, q65, q67, ho42, f2, f7, f8, o1006, o1008⟩
 refine PC.exit ?_
 obtain rfl := pz hs45
 try dsimp only at ho42
 subst ho42
 try dsimp only at h0
 refine hK33 _ _ <| A1 7 f7 fun F f7 => ?_
 refine SR fun K99 hK99 => m_ f7 <| q1 (Js (e_ q39)) <| nl hK99 <| A1 6 (e_ q39) fun F f6 => ?_
 refine PC.freezeL (rep := B) 6 f6 o1006 (fun _ => rfl) fun H fz100 => PC.ret ?_
 obtain rfl := pz h0
 exact fin (.inr rfl) (zaw Tryz.results113 (e_ (slB x38))) (zgq _)
noncomputable def Jn (a0:jz):G (List Bool):=
 G.bind (Qw a0) fun x4=>G.cond (!x4) (G.pure []) (G.bind (z7 (a0.jv.length:Int) ([0]:List Int) (fun y8=>ze y8 a0)) fun x9=>G.pure x9)
theorem zi2 {nn : Nat} {a0 : jz} {r : (List Bool)} (h0 : Jn a0 nn = some r) : PCall Tryz.prog 76 [qf a0] (· = slB r) := by
 unfold Jn at h0
 refine PCall.intro' Tryz.func76 rfl Tryz.ntmps76 (by simp) fun W => A1 0 (e_ (qf a0)) fun F f0 => ?_
 generalize PHeap.empty = H
 refine SR fun K1 hK1 => q3 (z5j f0 (zc0 _ _)) <| q3 (zjb (k := 1)) <| nl hK1 <| A1 1 (e_ (PV.rp (qf a0).cells)) fun F f1 => ?_
 refine PC.seq fun K2 hK2 => SR fun K3 hK3 => q1 (zte zua f1 (Yg _)) <| bk h0 fun x4 hx4 h0 => q3 (zsb (by kernel_rfl) (am rfl (am0)) (zbj (zz _) (zd5)) (zfl hx4)) <| q1 (z04 rfl) <| nl hK3 <| A2 1 f1 5 (e_ (B (!x4))) fun F f1 f5 => ?_
 refine cd f5 h0 (fun hb5 h0 => ?_) fun hb5 h0 => ?_
 refine SR fun K6 hK6 => q3 (zjb (k := 1)) <| nl hK6 <| A1 2 (e_ (slB [])) fun F f2 => ?_
 refine PC.ret ?_
 obtain rfl := pz h0
 exact fin (.inr rfl) (zaw Tryz.results76 f2) (zgq _)
 refine sk hK2 <| A1 1 f1 fun F f1 => ?_
 refine SR fun K7 hK7 => q1 (zoh zg4 Y9 (by decide) f1) <| q1 (zg8 Y9 rfl (Yp a0)) <| q1 (zd9 (rep := slI) (xs := a0.jv) zf7 rfl) <| q3 (zxl (rep := I) (xs := [0]) zw rfl (by decide) (bm (e_ (I 0)) (bm0)) rfl rfl) <| q1 (z8l (am0) (am f1 (am0))) <| bk h0 fun x9 hx9 h0 => q3 (zsb (by kernel_rfl) (am rfl (am rfl (am rfl (am0)))) (zbj (.u _) (zbj (zcf _) (zbj (.fn _ _ _ (zd5) (zbj (.rp _ (Z6 (zz _))) (zd5))) (zd5)))) (zda (zd5) (zbj (.rp _ (Z6 (zz _))) (zd5)) (by kernel_rfl) (fun h => zfp h) hx9)) <| q1 (Js (e_ (slB x9))) <| nl hK7 <| A1 2 (e_ (slB x9)) fun F f2 => ?_
 refine PC.ret ?_
 obtain rfl := pz h0
 exact fin (.inr rfl) (zaw Tryz.results76 f2) (zgq _)
noncomputable def Jm (a0:Int) (c0:(List (List Int))):G (List Int):=
 G.bind (G.lift (idx c0 a0)) fun x3=>G.pure x3
theorem zjf {nn : Nat} {a0 : Int} {c0 : (List (List Int))} {r : (List Int)} (h0 : Jm a0 c0 nn = some r) : PCall Tryz.prog 116 [I a0, PV.rp (ziv c0).cells] (· = slI r) := by
 unfold Jm at h0
 refine PCall.intro' Tryz.func116 rfl Tryz.ntmps116 (by simp) fun W => A2 0 (e_ (I a0)) 1 (e_ (PV.rp (ziv c0).cells)) fun F f0 f1 => ?_
 generalize PHeap.empty = H
 refine SR fun K1 hK1 => q3 (zjb (k := 1)) <| nl hK1 <| A2 0 f0 1 f1 fun F f0 f1 => ?_
 refine SR fun K2 hK2 => q1 (zea Y9 f1) <| m_ f0 <| bk h0 fun x3 hx3 h0 => q1 (zc1 (rep := slI) (xs := c0) zdn rfl rfl hx3) <| q1 (zea zcd rfl) <| q1 (Js (e_ (slI x3))) <| nl hK2 <| A1 3 (e_ (slI x3)) fun F f3 => ?_
 refine PC.ret ?_
 obtain rfl := pz h0
 exact fin (.inr rfl) (zaw Tryz.results116 f3) (zcf _)
noncomputable def Vb (a0:jz):G (List Bool):=
 G.bind (Qw a0) fun x4=>G.cond (!x4) (G.pure []) (G.bind (G.lift (mkS 24 ([]:(List Int)) (a0.jv.length:Int))) fun x8=>G.bind (G.loop (σ:=(Int×(List Int)×(List (List Int)))) (α:=((List Int)×(List (List Int)))) (fun(x22,x23,x25)=>G.cond (decide (x22<(a0.yx.length:Int))) (G.bind (α:=((List Int)×(List (List Int)))) (G.bind (G.lift (idx a0.yx x22)) fun x42=>G.bind (Ya a0 x22) fun x45=>G.bind (G.loop (σ:=(Int×(List (List Int)))) (α:=(List (List Int))) (fun(x51,x52)=>G.cond (decide (x51<(x45.length:Int))) (G.bind (G.lift (idx x45 x51)) fun x64=>G.bind (G.lift (idx x52 x64)) fun x65=>G.bind (G.lift (app 8 x65 ([x22]:List Int))) fun x67=>G.bind (G.lift (idx x52 x64)) fun x70=>G.pure (.inl ((w64 (x51+1)),(x52.set (x64:Int).toNat x67)))) (G.pure (.inr x52))) (0,x25)) fun x77=>G.cond (decide (0≤x42)) (G.bind (G.lift (app 8 x23 ([x22]:List Int))) fun x81=>G.pure (x81,x77)) (G.pure (x23,x77))) fun(x37,x39)=>G.pure (.inl ((w64 (x22+1)),x37,x39))) (G.pure (.inr (x23,x25)))) (0,[],x8)) fun(x91,x93)=>G.bind (z7 (a0.jv.length:Int) x91 (fun y98=>Jm y98 x93)) fun x99=>G.pure x99)
theorem zo6 {nn : Nat} {a0 : jz} {r : (List Bool)} (h0 : Vb a0 nn = some r) : PCall Tryz.prog 77 [qf a0] (· = slB r) := by
 unfold Vb at h0
 refine PCall.intro' Tryz.func77 rfl Tryz.ntmps77 (by simp) fun W => A1 0 (e_ (qf a0)) fun F f0 => ?_
 generalize PHeap.empty = H
 refine SR fun K1 hK1 => q3 (z5j f0 (zc0 _ _)) <| q3 (zjb (k := 1)) <| nl hK1 <| A1 1 (e_ (PV.rp (qf a0).cells)) fun F f1 => ?_
 refine PC.seq fun K2 hK2 => SR fun K3 hK3 => q1 (zte zua f1 (Yg _)) <| bk h0 fun x4 hx4 h0 => q3 (zsb (by kernel_rfl) (am rfl (am0)) (zbj (zz _) (zd5)) (zfl hx4)) <| q1 (z04 rfl) <| nl hK3 <| A2 1 f1 11 (e_ (B (!x4))) fun F f1 f11 => ?_
 refine cd f11 h0 (fun hb5 h0 => ?_) fun hb5 h0 => ?_
 refine SR fun K6 hK6 => q3 (zjb (k := 1)) <| nl hK6 <| A1 2 (e_ (slB [])) fun F f2 => ?_
 refine PC.ret ?_
 obtain rfl := pz h0
 exact fin (.inr rfl) (zaw Tryz.results77 f2) (zgq _)
 refine sk hK2 <| A1 1 f1 fun F f1 => ?_
 refine SR fun K7 hK7 => q1 (zoh zg4 Y9 (by decide) f1) <| q1 (zg8 Y9 rfl (Yp a0)) <| q1 (zd9 (rep := slI) (xs := a0.jv) zf7 rfl) <| bk h0 fun x8 hx8 h0 => PL.mkLL (e := 3) (rep := I) 1015 100000 (by decide) rfl rfl rfl (by decide) zx8 (e_ (I (a0.jv.length : Int))) hx8 fun q9 H o1015 fz10 => PL.allocA 203 (cs := [(PV.u (.slice none 0 0))]) rfl rfl rfl (by decide) z8a (by kernel_rfl) (by kernel_rfl) fun v203 H b203 fz11 => have o1015 := o1015.mono (fz11 1015 (by decide)) (fun j hj => fz11 j (by omega)); PL.recell (cs' := [(ziv [])]) b203 (WeakL.cons (Weak.nil _) WeakL.nil) fun H b203 fz12 => have o1015 := o1015.mono (fz12 1015 (by decide)) (fun j hj => fz12 j (by omega)); PL.storeA (ag := false) (cs' := [q9]) (ps := [q9]) rfl rfl (fun _ h => by cases h) (e_ (PV.pp 203 0 v203)) b203 Y9 (e_ q9) (ll_ok o1015) (z9a o1015) rfl (by decide) rfl fun H b203 fz13 => have o1015 := o1015.mono (fz13 1015 (by decide)) (fun j hj => fz13 j (by omega)); nl hK7 <| A2 1 f1 3 (e_ (PV.pp 203 0 v203)) fun F f1 f3 => ?_
 refine SR fun K14 hK14 => q1 (Js rfl) ?_
 have o1004 : ownL 3 1 I H 1004 (PV.u (.slice none 0 0)) [] := ownL.nil _ _
 refine nl hK14 <| A3 1 f1 3 f3 4 (e_ (PV.u (.slice none 0 0))) fun F f1 f3 f4 => ?_
 refine PC.seq fun K15 hK15 => SR fun K16 hK16 => q1 (zoh z52 zcd (by decide) f1) <| q1 (zg8 zcd rfl (zqc a0)) <| q1 (zd9 (rep := I) (xs := a0.yx) Yd rfl) <| m_ (e_ (I 0)) <| nl hK16 <| A6 1 f1 3 f3 4 f4 17 (e_ (slI a0.yx)) 18 (e_ (I (a0.yx.length : Int))) 19 (e_ (I 0)) fun F f1 f3 f4 f17 f18 f19 => ?_
 refine PC.block <| bk h0 fun o27 ho27 h0 => ?_
 obtain ⟨B28, hB28, ho27⟩ := G.loop_some ho27
 refine PC.loop (fun m31 F H => ∃ s100 : (Int × (List Int) × (List (List Int))), ∃ q24, ∃ q26, zao B28 m31 s100 = some o27 ∧ F 1 = (PV.rp (qf a0).cells) ∧ F 3 = (PV.pp 203 0 v203) ∧ F 4 = q24 ∧ F 17 = (slI a0.yx) ∧ F 18 = (I (a0.yx.length : Int)) ∧ F 19 = (I s100.1) ∧ H 203 = ⟨v203, some (.box 30 [q26])⟩ ∧ ownL 3 1 I H 1004 q24 s100.2.1 ∧ ownLL 31 3 100000 I H 1015 q26 s100.2.2) (m := nn) ⟨(0, [], x8), (PV.u (.slice none 0 0)), q9, ho27, f1, f3, f4, f17, f18, f19, b203, o1004, o1015⟩ fun m31 F H hI => ?_
 obtain ⟨⟨x22, x23, x25⟩, q24, q26, ho27, f1, f3, f4, f17, f18, f19, b203, o1004, o1015⟩ := hI
 obtain ⟨m31, rfl, st29, hs30, ho27⟩ := V8 ho27
 rw [hB28] at hs30
 try dsimp only at hs30
 refine SR fun K32 hK32 => q1 (V3 rfl f19 f18 zbq) <| nl hK32 <| A7 1 f1 3 f3 4 f4 17 f17 18 f18 19 f19 20 (e_ (B (decide (x22 < (a0.yx.length : Int))))) fun F f1 f3 f4 f17 f18 f19 f20 => ?_
 refine PC.seq fun K33 hK33 => ?_
 refine cd f20 hs30 (fun hb34 hs30 => ?_) fun hb34 hs30 => ?_
 refine sk hK33 <| A6 1 f1 3 f3 4 f4 17 f17 18 f18 19 f19 fun F f1 f3 f4 f17 f18 f19 => ?_
 obtain ⟨o36, ho36, hs30⟩ := bs hs30
 refine PC.seqM (fun F H => ∃ s85 : ((List Int) × (List (List Int))), ∃ q38, ∃ q40, o36 = s85 ∧ F 1 = (PV.rp (qf a0).cells) ∧ F 3 = (PV.pp 203 0 v203) ∧ F 4 = q38 ∧ F 17 = (slI a0.yx) ∧ F 18 = (I (a0.yx.length : Int)) ∧ F 19 = (I x22) ∧ H 203 = ⟨v203, some (.box 30 [q40])⟩ ∧ ownL 3 1 I H 1004 q38 s85.1 ∧ ownLL 31 3 100000 I H 1015 q40 s85.2) ?_ ?_
 refine PC.block <| SR fun K41 hK41 => m_ f19 <| bk ho36 fun x42 hx42 ho36 => q1 (zc1 (rep := I) (xs := a0.yx) zal f17 f19 hx42) <| q1 (zea zkm rfl) <| q1 (Js (e_ (I x22))) <| q1 (Js (e_ (I x42))) <| nl hK41 <| A8 1 f1 3 f3 4 f4 5 (e_ (I x22)) 6 (e_ (I x42)) 17 f17 18 f18 19 f19 fun F f1 f3 f4 f5 f6 f17 f18 f19 => ?_
 refine PC.seq fun K43 hK43 => SR fun K44 hK44 => q1 (zte zua f1 (Yg _)) <| m_ f5 <| bk ho36 fun x45 hx45 ho36 => q3 (zsb (by kernel_rfl) (am rfl (am rfl (am0))) (zbj (zz _) (zbj (.u _) (zd5))) (zkg hx45)) <| q1 (zd9 (rep := I) (xs := x45) Yd rfl) <| m_ (e_ (I 0)) <| nl hK44 <| A11 1 f1 3 f3 4 f4 5 f5 6 f6 17 f17 18 f18 19 f19 26 (e_ (slI x45)) 27 (e_ (I (x45.length : Int))) 28 (e_ (I 0)) fun F f1 f3 f4 f5 f6 f17 f18 f19 f26 f27 f28 => ?_
 refine PC.block <| bk ho36 fun o54 ho54 ho36 => ?_
 obtain ⟨B55, hB55, ho54⟩ := G.loop_some ho54
 refine PC.loop (fun m58 F H => ∃ s84 : (Int × (List (List Int))), ∃ q53, zao B55 m58 s84 = some o54 ∧ F 1 = (PV.rp (qf a0).cells) ∧ F 3 = (PV.pp 203 0 v203) ∧ F 4 = q24 ∧ F 5 = (I x22) ∧ F 6 = (I x42) ∧ F 17 = (slI a0.yx) ∧ F 18 = (I (a0.yx.length : Int)) ∧ F 19 = (I x22) ∧ F 26 = (slI x45) ∧ F 27 = (I (x45.length : Int)) ∧ F 28 = (I s84.1) ∧ H 203 = ⟨v203, some (.box 30 [q53])⟩ ∧ ownL 3 1 I H 1004 q24 x23 ∧ ownLL 31 3 100000 I H 1015 q53 s84.2) (m := nn) ⟨(0, x25), q26, ho54, f1, f3, f4, f5, f6, f17, f18, f19, f26, f27, f28, b203, o1004, o1015⟩ fun m58 F H hI => ?_
 obtain ⟨⟨x51, x52⟩, q53, ho54, f1, f3, f4, f5, f6, f17, f18, f19, f26, f27, f28, b203, o1004, o1015⟩ := hI
 obtain ⟨m58, rfl, st56, hs57, ho54⟩ := V8 ho54
 rw [hB55] at hs57
 try dsimp only at hs57
 refine SR fun K59 hK59 => q1 (V3 rfl f28 f27 zbq) <| nl hK59 <| A12 1 f1 3 f3 4 f4 5 f5 6 f6 17 f17 18 f18 19 f19 26 f26 27 f27 28 f28 29 (e_ (B (decide (x51 < (x45.length : Int))))) fun F f1 f3 f4 f5 f6 f17 f18 f19 f26 f27 f28 f29 => ?_
 refine PC.seq fun K60 hK60 => ?_
 refine cd f29 hs57 (fun hb61 hs57 => ?_) fun hb61 hs57 => ?_
 refine sk hK60 <| A11 1 f1 3 f3 4 f4 5 f5 6 f6 17 f17 18 f18 19 f19 26 f26 27 f27 28 f28 fun F f1 f3 f4 f5 f6 f17 f18 f19 f26 f27 f28 => ?_
 refine PC.seq fun K62 hK62 => PC.block <| SR fun K63 hK63 => bk hs57 fun x64 hx64 hs57 => q1 (zc1 (rep := I) (xs := x45) zal f26 f28 hx64) <| q1 (zea zkm rfl) <| q1 (Js (e_ (I x64))) <| nl hK63 <| A12 1 f1 3 f3 4 f4 5 f5 6 f6 8 (e_ (I x64)) 17 f17 18 f18 19 f19 26 f26 27 f27 28 f28 fun F f1 f3 f4 f5 f6 f8 f17 f18 f19 f26 f27 f28 => ?_
 obtain ⟨x65, hx65, hs57⟩ := bs hs57
 obtain ⟨x67, hx67, hs57⟩ := bs hs57
 refine PC.regionH (fun H' => ∀ j, j < 100000 → H' j = H j) (fun pq H' => ownL 3 1 I H' (100000 + (x64 : Int).toNat) pq x67 ∧ ∀ j, j ≠ (100000 + (x64 : Int).toNat) → H' j = H j) 9 8 [0, 1, 2, 3, 4, 5, 6, 7] [9, 10] mixed (by kernel_rfl) rfl rfl (by decide) rfl (fun _ _ => rfl) (fun p H' h j hj => h.2 j (by omega)) <| JF.q (p := q53) rfl (Vf (by decide)) (fun hJ => z63 Y9 f3 ((hJ 203 (by decide)).trans b203) rfl) <| JF.q (p := (I x64)) rfl (Vf (by decide)) (fun hJ => z1v f8) <| JF.q (p := q53) rfl (Vf (by decide)) (fun hJ => z63 Y9 f3 ((hJ 203 (by decide)).trans b203) rfl) <| JF.q (p := (I x64)) rfl (Vf (by decide)) (fun hJ => z1v f8) <| JF.q (p := (PV.pp 1015 ((x64 : Int).toNat * 1) (Zm q53))) rfl (Vf (by decide)) (fun hJ => z14 zdn o1015 (hJ 1015 (by decide)) (e_ q53) (e_ (I x64)) hx65) <| JF.ex rfl (Vf (by decide)) (ll_ldJ zcd o1015 (fun H' hJ => hJ 1015 (by decide)) (e_ (PV.pp 1015 ((x64 : Int).toNat * 1) (Zm q53))) hx65) fun p66 cp66 => JF.q (p := (I x22)) rfl (Vf (by decide)) (fun hJ => z1v f5) <| JF.qq (p := (slI ([x22] : List Int))) rfl (Vf (by decide)) (fun hJ => zxl (rep := I) (xs := [x22]) zw rfl (by decide) (bm (e_ (I x22)) (bm0)) rfl rfl) ?_
 refine JF.nil ⟨fun F2 hF2 => PE.appI (rep := I) (ys := ([x22] : List Int)) (id := (100000 + (x64 : Int).toNat)) rfl rfl (by decide) zw ((hF2 37 (by simp [Op.operands, Call.operands])).trans (e_ p66)) (cp66.inner hx65) ((hF2 39 (by simp [Op.operands, Call.operands])).trans (e_ (slI ([x22] : List Int)))) (fun _ => rfl) (fun _ => rfl) hx67, fun q68 H ⟨oiq68, fz69⟩ => ?_⟩
 obtain ⟨x70, hx70, hs57⟩ := bs hs57
 refine q1 (z14 zdn o1015 (fz69 1015 (by omega)) (e_ q53) (e_ (I x64)) hx70) <| PL.stLL (by decide) rfl rfl rfl zcd cp66 fz69 oiq68 hx65 (e_ q68) (e_ (PV.pp 1015 ((x64 : Int).toNat * 1) (Zm q53))) fun H o1015 fz71 => have b203 := (fz71 203 (by decide) (by decide)).trans b203; have o1004 := o1004.mono (fz71 1004 (by decide) (by decide)); nl hK62 <| A11 1 f1 3 f3 4 f4 5 f5 6 f6 17 f17 18 f18 19 f19 26 f26 27 f27 28 f28 fun F f1 f3 f4 f5 f6 f17 f18 f19 f26 f27 f28 => ?_
 refine PC.region <| q1 (V3 rfl f28 rfl znb) <| m_ (e_ (I (w64 (x51 + 1)))) <| PL.nil ?_
 obtain rfl := pz hs57
 exact ⟨m58, Nat.lt_succ_self _, _, q53, ho54, f1, f3, f4, f5, f6, f17, f18, f19, f26, f27, rfl, b203, o1004, o1015⟩
 refine PC.exit ?_
 obtain rfl := pz hs57
 try dsimp only at ho54
 subst ho54
 try dsimp only at ho36
 refine hK43 _ _ <| A8 1 f1 3 f3 4 f4 5 f5 6 f6 17 f17 18 f18 19 f19 fun F f1 f3 f4 f5 f6 f17 f18 f19 => ?_
 refine SR fun K72 hK72 => m_ f6 <| q1 (V3 rfl rfl rfl zm2) <| nl hK72 <| A8 1 f1 3 f3 4 f4 5 f5 17 f17 18 f18 19 f19 44 (e_ (B (decide (0 ≤ x42)))) fun F f1 f3 f4 f5 f17 f18 f19 f44 => ?_
 refine cd f44 ho36 (fun hb73 ho36 => ?_) fun hb73 ho36 => ?_
 refine PC.region <| m_ f4 <| m_ f5 <| q3 (zxl (rep := I) (xs := [x22]) zw rfl (by decide) (bm (e_ (I x22)) (bm0)) rfl rfl) <| bk ho36 fun x74 hx74 ho36 => PL.appG (rep := I) (ys := ([x22] : List Int)) rfl rfl rfl (by decide) zw (e_ q24) o1004 (e_ (slI ([x22] : List Int))) (fun _ => rfl) (lf1 (fun _ => rfl) (fun _ => rfl)) hx74 fun q75 H o1004 fz76 => have o1015 := o1015.mono (fz76 1015 (by decide)) (fun j hj => fz76 j (by omega)); have b203 := (fz76 203 (by decide)).trans b203; q1 (Js (e_ q75)) <| PL.nil ?_
 obtain rfl := pz ho36
 exact ⟨(x74, x52), q75, q53, rfl, f1, f3, (e_ q75), f17, f18, f19, b203, o1004, o1015⟩
 refine PC.skip ?_
 obtain rfl := pz ho36
 exact ⟨(x23, x52), q24, q53, rfl, f1, f3, f4, f17, f18, f19, b203, o1004, o1015⟩
 intro F H hI
 obtain ⟨⟨x37, x39⟩, q38, q40, ho, f1, f3, f4, f17, f18, f19, b203, o1004, o1015⟩ := hI
 have ho := ho.symm
 subst ho
 try dsimp only at hs30
 refine PC.region <| q1 (V3 rfl f19 rfl znb) <| m_ (e_ (I (w64 (x22 + 1)))) <| PL.nil ?_
 obtain rfl := pz hs30
 exact ⟨m31, Nat.lt_succ_self _, _, q38, q40, ho27, f1, f3, f4, f17, f18, rfl, b203, o1004, o1015⟩
 refine PC.exit ?_
 obtain rfl := pz hs30
 try dsimp only at ho27
 subst ho27
 try dsimp only at h0
 refine hK15 _ _ <| A3 1 f1 3 f3 4 f4 fun F f1 f3 f4 => ?_
 refine PC.seq fun K86 hK86 => PC.freezeL (rep := I) 4 f4 o1004 (fun _ => rfl) fun H fz87 => have o1015 := o1015.mono (fz87 1015 (by decide)) (fun j hj => fz87 j (by omega)); have b203 := (fz87 203 (by decide)).trans b203; PC.freezeD (fun i => i == 203 || i == 1015 || decide (100000 ≤ i)) 3 f3 (z00 b203 o1015 (fun _ => rfl) (fun _ => (.u _)) rfl rfl (fun j hj => by simp [hj])) (.rp _ (Z6 (p := ziv x25) (zab _))) fun H fz88 => PC.region <| q1 (zoh zg4 Y9 (by decide) f1) <| q1 (zg8 Y9 rfl (Yp a0)) <| q1 (zd9 (rep := slI) (xs := a0.jv) zf7 rfl) <| m_ (e_ (slI x23)) <| q1 (z8l (am0) (am rfl (am0))) <| bk h0 fun x90 hx90 h0 => q3 (zsb (by kernel_rfl) (am rfl (am rfl (am rfl (am0)))) (zbj (.u _) (zbj (zcf _) (zbj (.fn _ _ _ (zd5) (zbj (.rp _ (Z6 (zab _))) (zd5))) (zd5)))) (zda (zd5) (zbj (.rp _ (Z6 (zab _))) (zd5)) (by kernel_rfl) (fun h => zjf h) hx90)) <| q1 (Js (e_ (slB x90))) <| nl hK86 <| A1 2 (e_ (slB x90)) fun F f2 => ?_
 refine PC.ret ?_
 obtain rfl := pz h0
 exact fin (.inr rfl) (zaw Tryz.results77 f2) (zgq _)
end Go.Proofs.YtdllbdlnmjngcaaGreat
namespace Go.Proofs.YtdllbdlnmjngcaaGreat.T
open Go Go.RowKit L
set_option linter.unusedVariables false
noncomputable def Vr (nn:Nat) (a0:D_api_Dfa):Option (List Bool):=Jn (zmr a0) nn
noncomputable abbrev zn9 (nn:Nat):PF:=⟨[Y_api_Dfa],(.sl .bool),fun t=>Vr nn t⟩
theorem za8 (nn:Nat):qe 76 (zn9 nn):=⟨by kernel_rfl,fun t r h=>by
 have:=zi2 h
 rw[← zj7] at this
 exact this⟩
noncomputable def zcs (nn:Nat) (a0:D_api_Dfa):Option (List Bool):=Vb (zmr a0) nn
noncomputable abbrev zvi (nn:Nat):PF:=⟨[Y_api_Dfa],(.sl .bool),fun t=>zcs nn t⟩
theorem zlc (nn:Nat):qe 77 (zvi nn):=⟨by kernel_rfl,fun t r h=>by
 have:=zo6 h
 rw[← zj7] at this
 exact this⟩
noncomputable def Qj (nn:Nat) (a0:D_api_Dfa):Option (List Int):=ja (Vr nn a0) fun x1=>jt (fun(x2:(List Bool)×Int×Int×D_api_Dfa×(List Int)) x3=>ifB (decide (x2.2.2.1<x2.2.1)) (J (fun(x4:(List Bool)×Int×Int×D_api_Dfa×(List Int))=>ja (some (w64 (x4.2.2.1+1))) fun x6=>x3 (x4.1,x4.2.1,x6,x4.2.2.2.1,x4.2.2.2.2)) fun x5=>ja (atL x2.1 x2.2.2.1) fun x7=>J (fun(x8:Int×(List Bool)×Int×Int×Bool×D_api_Dfa×(List Int))=>ifB x8.2.2.2.2.1 (ja (atL x8.2.2.2.2.2.1.2.2.2.1 x8.1) fun x10=>ja (apO 8 x8.2.2.2.2.2.2 [x10]) fun x11=>x5 (x8.2.1,x8.2.2.1,x8.2.2.2.1,x8.2.2.2.2.2.1,x11)) (x5 (x8.2.1,x8.2.2.1,x8.2.2.2.1,x8.2.2.2.2.2.1,x8.2.2.2.2.2.2))) fun x9=>ifB x7 (ja (atL x2.2.2.2.1.2.2.2.1 x2.2.2.1) fun x12=>x9 (x2.2.2.1,x2.1,x2.2.1,x2.2.2.1,decide (0≤x12),x2.2.2.2.1,x2.2.2.2.2)) (x9 (x2.2.2.1,x2.1,x2.2.1,x2.2.2.1,false,x2.2.2.2.1,x2.2.2.2.2))) (ja (small7 x2.2.2.2.2 (Vy x2.2.2.2.2)) fun x13=>ja (small7 x13 (Jj x13)) fun x14=>some x14)) nn (x1,(x1.length:Int),0,a0,[])
noncomputable def zqf:=lk (α:=HK) [(58, .meet ⟨[(1, .pt 0 0),(3, .own 1),(7, .v (.sl .bool)),(8, .v (.int .i64)),(9, .v (.int .i64))],[(0, .box 33 [.v Y_api_Dfa]),(1, .row 3 (.int .i64))],2⟩),(934, .meet ⟨[(1, .pt 0 0),(3, .own 1),(7, .v (.sl .bool)),(8, .v (.int .i64)),(9, .v (.int .i64))],[(0, .box 33 [.v Y_api_Dfa]),(1, .row 3 (.int .i64))],2⟩),(7474, .meet ⟨[(1, .pt 0 0),(3, .own 1),(4, .v (.int .i64)),(7, .v (.sl .bool)),(8, .v (.int .i64)),(9, .v (.int .i64)),(22, .v .bool)],[(0, .box 33 [.v Y_api_Dfa]),(1, .row 3 (.int .i64))],2⟩)]
noncomputable abbrev zrb (nn:Nat):FF:=⟨[Y_api_Dfa],3,(.int .i64),fun t=>Qj nn t⟩
set_option maxRecDepth 100000 in
theorem zi8 (nn:Nat):FFOk 106 (zrb nn):=mk2 Tryz.func106 nn 0 [(0,[31])] [(0,[(29, .told (.int .i64))])] [] [] itn zqf rn gn (tc (za8 nn) tn) (by kernel_rfl) fun t=>by kernel_rfl
noncomputable abbrev zp4 (nn:Nat):PF:=⟨[Y_api_Dfa],(.sl (.int .i64)),fun t=>Qj nn t⟩
theorem zj4 (nn:Nat):qe 106 (zp4 nn):=(zi8 nn).pure
noncomputable def vz (nn:Nat) (a0:(List Int)) (a1:Int):Option Int:=jt (fun(x1:(List Int)×Int×Int×Int) x2=>ifB (decide (x1.2.2.2<x1.2.2.1)) (ja (atL x1.1 x1.2.2.2) fun x3=>ifB (decide (x1.2.1=x3)) (some x1.2.2.2) (ja (some (w64 (x1.2.2.2+1))) fun x4=>x2 (x1.1,x1.2.1,x1.2.2.1,x4))) (some (-1))) nn (a0,a1,(a0.length:Int),0)
noncomputable def zap:=lk (α:=HK) [(26, .meet ⟨[(0, .v (.sl (.int .i64))),(1, .v (.int .i64)),(7, .v (.int .i64)),(8, .v (.int .i64))],[],0⟩)]
noncomputable abbrev zaq (nn:Nat):PF:=⟨[(.sl (.int .i64)),(.int .i64)],(.int .i64),fun t=>vz nn (t.1) (t.2)⟩
set_option maxRecDepth 100000 in
theorem Zl (nn:Nat):qe 165 (zaq nn):=mk1 Tryz.func165 nn 0 [(0,[18])] [] [] [] itn zap rn gn tn (by kernel_rfl) fun t=>by kernel_rfl
noncomputable def yl (nn:Nat) (a0:(List Int)) (a1:Int):Option Bool:=ja (vz nn a0 a1) fun x1=>some (decide (0≤x1))
noncomputable def Zc:=lk (α:=HK) []
noncomputable abbrev Zb (nn:Nat):PF:=⟨[(.sl (.int .i64)),(.int .i64)], .bool,fun t=>yl nn (t.1) (t.2)⟩
set_option maxRecDepth 100000 in
theorem Vx (nn:Nat):qe 108 (Zb nn):=mk1 Tryz.func108 nn 0 [] [] [] [] itn Zc rn gn (tc (Zl nn) tn) (by kernel_rfl) fun t=>by kernel_rfl
noncomputable def yi (nn:Nat) (a0:(Option y5)):Option jk:=ja (a0) fun x1=>ja (Qj nn x1.2.1) fun x2=>J (fun(x3:jk)=>some x3) fun x4=>ja (a0) fun x5=>jt (fun(x6:Int×Int×Int×Int×(List Int)×jk) x7=>ifB (decide (x6.2.2.2.1<x6.2.2.1)) (ja (yl nn x6.2.2.2.2.1 x6.2.2.2.1) fun x8=>ifB (!x8) (x4 (x6.1,x6.2.2.2.1,x6.2.1,())) (ja (some (w64 (x6.2.2.2.1+1))) fun x9=>x7 (x6.1,x6.2.1,x6.2.2.1,x9,x6.2.2.2.2.1,x6.2.2.2.2.2))) (x4 (0,0,0,()))) nn (13,1,(x5.1.1.length:Int),0,x2,(0,0,0,()))
noncomputable def zb5:=lk (α:=HK) [(14, .meet ⟨[(2, .pt 0 0)],[(0, .box 36 [.v jl])],1⟩)]
noncomputable def zah:=lk (α:=HK) [(26, .meet ⟨[(1, .v (.int .i64)),(2, .v (.int .i64)),(3, .fn 107 [] [.pt 0 0]),(8, .pt 1 0),(10, .v (.int .i64)),(11, .v (.int .i64))],[(0, .box 31 [.v (.sl (.int .i64))]),(1, .box 36 [.v jl])],2⟩)]
noncomputable def zaa:=lk (α:=HK) []
noncomputable abbrev zbl (nn:Nat):PF:=⟨[(.ref y6)],jl,fun t=>yi nn t⟩
set_option maxRecDepth 100000 in
theorem zam (nn:Nat):qe 71 (zbl nn):=mk1 Tryz.func71 nn 9 [(1,[22])] [] [] [] (itc 1350059 Tryz.func59 zah 1 [] (itc 10002580107 Tryz.func107 zaa 2 [] itn (by kernel_rfl)) (by kernel_rfl)) zb5 rn gn (tc (zj4 nn) (tc (Vx nn) tn)) (by kernel_rfl) fun t=>by kernel_rfl
noncomputable def za7 (nn:Nat) (a0:D_api_Dfa):Option D_api_Dfa:=ja (p_dfa_Right nn a0) fun x1=>ifB (!x1) (some (⟨List.replicate 256 0,List.length_replicate⟩,0,[],[],())) (ja (Vr nn a0) fun x2=>ja (zcs nn a0) fun x3=>ja (some (a0.2.2.1.length:Int)) fun x4=>ja (mkO 8 x4) fun x5=>jt (fun(x6:(List Bool)×(List Bool)×Int×Int×D_api_Dfa×(Arr 256 Int)×Int×(List Int)×(List Int)×(List (List Int))×(List Int)) x7=>ifB (decide (x6.2.2.2.1<x6.2.2.1)) (J (fun(x8:(List Bool)×(List Bool)×Int×Int×D_api_Dfa×(Arr 256 Int)×Int×(List Int)×(List Int)×(List (List Int))×(List Int))=>ja (some (w64 (x8.2.2.2.1+1))) fun x10=>x7 (x8.1,x8.2.1,x8.2.2.1,x10,x8.2.2.2.2.1,x8.2.2.2.2.2.1,x8.2.2.2.2.2.2.1,x8.2.2.2.2.2.2.2.1,x8.2.2.2.2.2.2.2.2.1,x8.2.2.2.2.2.2.2.2.2.1,x8.2.2.2.2.2.2.2.2.2.2)) fun x9=>ja (qz x6.2.2.2.2.2.2.2.1.length x6.2.2.2.1) fun x11=>ja (Zg x6.2.2.2.2.2.2.2.1 x11 (-1)) fun x12=>J (fun(x13:(List Bool)×(List Bool)×Int×Int×Int×Bool×D_api_Dfa×(Arr 256 Int)×Int×(List Int)×(List Int)×(List (List Int))×(List Int))=>ifB x13.2.2.2.2.2.1 (ja (qz x13.2.2.2.2.2.2.2.2.2.1.length x13.2.2.1) fun x15=>ja (Zg x13.2.2.2.2.2.2.2.2.2.1 x15 (x13.2.2.2.2.2.2.2.2.2.2.1.length:Int)) fun x16=>ja (apO 8 x13.2.2.2.2.2.2.2.2.2.2.1 [x13.2.2.1]) fun x17=>x9 (x13.1,x13.2.1,x13.2.2.2.1,x13.2.2.2.2.1,x13.2.2.2.2.2.2.1,x13.2.2.2.2.2.2.2.1,x13.2.2.2.2.2.2.2.2.1,x16,x17,x13.2.2.2.2.2.2.2.2.2.2.2.1,x13.2.2.2.2.2.2.2.2.2.2.2.2)) (x9 (x13.1,x13.2.1,x13.2.2.2.1,x13.2.2.2.2.1,x13.2.2.2.2.2.2.1,x13.2.2.2.2.2.2.2.1,x13.2.2.2.2.2.2.2.2.1,x13.2.2.2.2.2.2.2.2.2.1,x13.2.2.2.2.2.2.2.2.2.2.1,x13.2.2.2.2.2.2.2.2.2.2.2.1,x13.2.2.2.2.2.2.2.2.2.2.2.2))) fun x14=>ja (some (decide (x6.2.2.2.1=0))) fun x18=>ifB x18 (x14 (x6.1,x6.2.1,x6.2.2.2.1,x6.2.2.1,x6.2.2.2.1,true,x6.2.2.2.2.1,x6.2.2.2.2.2.1,x6.2.2.2.2.2.2.1,x12,x6.2.2.2.2.2.2.2.2.1,x6.2.2.2.2.2.2.2.2.2.1,x6.2.2.2.2.2.2.2.2.2.2)) (ja (atL x6.1 x6.2.2.2.1) fun x19=>ifB x19 (ja (atL x6.2.1 x6.2.2.2.1) fun x20=>x14 (x6.1,x6.2.1,x6.2.2.2.1,x6.2.2.1,x6.2.2.2.1,x20,x6.2.2.2.2.1,x6.2.2.2.2.2.1,x6.2.2.2.2.2.2.1,x12,x6.2.2.2.2.2.2.2.2.1,x6.2.2.2.2.2.2.2.2.2.1,x6.2.2.2.2.2.2.2.2.2.2)) (x14 (x6.1,x6.2.1,x6.2.2.2.1,x6.2.2.1,x6.2.2.2.1,false,x6.2.2.2.2.1,x6.2.2.2.2.2.1,x6.2.2.2.2.2.2.1,x12,x6.2.2.2.2.2.2.2.2.1,x6.2.2.2.2.2.2.2.2.2.1,x6.2.2.2.2.2.2.2.2.2.2)))) (jt (fun(x21:Int×Int×D_api_Dfa×(Arr 256 Int)×Int×(List Int)×(Arr 256 Int)×Int×(List Int)×(List (List Int))×(List Int)×(List (List Int))×(List Int)) x22=>ifB (decide (x21.2.1<x21.1)) (ja (qz x21.2.2.2.2.2.2.2.2.1.length x21.2.1) fun x23=>ja (atL x21.2.2.2.2.2.2.2.2.1 x23) fun x24=>ja (mkO 8 x21.2.2.1.2.1) fun x25=>ja (atL x21.2.2.1.2.2.1 x24) fun x26=>ja (z6p (List.replicate x25 (0:Int)) x26) fun x27=>jt (fun(x28:Int×Int×Int×Int×Int×D_api_Dfa×(Arr 256 Int)×Int×(List Int)×(Arr 256 Int)×Int×(List Int)×(List Int)×(List (List Int))×(List Int)×(List (List Int))×(List Int)) x29=>ifB (decide (x28.2.2.2.2.1<x28.2.2.2.1)) (J (fun(x30:Int×Int×Int×Int×Int×D_api_Dfa×(Arr 256 Int)×Int×(List Int)×(Arr 256 Int)×Int×(List Int)×(List Int)×(List (List Int))×(List Int)×(List (List Int))×(List Int))=>ja (some (w64 (x30.2.2.2.2.1+1))) fun x32=>x29 (x30.1,x30.2.1,x30.2.2.1,x30.2.2.2.1,x32,x30.2.2.2.2.2.1,x30.2.2.2.2.2.2.1,x30.2.2.2.2.2.2.2.1,x30.2.2.2.2.2.2.2.2.1,x30.2.2.2.2.2.2.2.2.2.1,x30.2.2.2.2.2.2.2.2.2.2.1,x30.2.2.2.2.2.2.2.2.2.2.2.1,x30.2.2.2.2.2.2.2.2.2.2.2.2.1,x30.2.2.2.2.2.2.2.2.2.2.2.2.2.1,x30.2.2.2.2.2.2.2.2.2.2.2.2.2.2.1,x30.2.2.2.2.2.2.2.2.2.2.2.2.2.2.2.1,x30.2.2.2.2.2.2.2.2.2.2.2.2.2.2.2.2)) fun x31=>ja (qz x28.2.2.2.2.2.2.2.2.2.2.2.1.length x28.2.2.2.2.1) fun x33=>ja (atL x28.2.2.2.2.2.2.2.2.2.2.2.1 x33) fun x34=>ifB (decide (0≤x34)) (ja (qz x28.2.2.2.2.2.2.2.2.1.length x34) fun x35=>ja (atL x28.2.2.2.2.2.2.2.2.1 x35) fun x36=>ja (qz x28.2.2.2.2.2.2.2.2.2.2.2.1.length x28.2.2.2.2.1) fun x37=>ja (Zg x28.2.2.2.2.2.2.2.2.2.2.2.1 x37 x36) fun x38=>x31 (x28.1,x28.2.1,x28.2.2.1,x28.2.2.2.1,x28.2.2.2.2.1,x28.2.2.2.2.2.1,x28.2.2.2.2.2.2.1,x28.2.2.2.2.2.2.2.1,x28.2.2.2.2.2.2.2.2.1,x28.2.2.2.2.2.2.2.2.2.1,x28.2.2.2.2.2.2.2.2.2.2.1,x38,x28.2.2.2.2.2.2.2.2.2.2.2.2.1,x28.2.2.2.2.2.2.2.2.2.2.2.2.2.1,x28.2.2.2.2.2.2.2.2.2.2.2.2.2.2.1,x28.2.2.2.2.2.2.2.2.2.2.2.2.2.2.2.1,x28.2.2.2.2.2.2.2.2.2.2.2.2.2.2.2.2)) (x31 (x28.1,x28.2.1,x28.2.2.1,x28.2.2.2.1,x28.2.2.2.2.1,x28.2.2.2.2.2.1,x28.2.2.2.2.2.2.1,x28.2.2.2.2.2.2.2.1,x28.2.2.2.2.2.2.2.2.1,x28.2.2.2.2.2.2.2.2.2.1,x28.2.2.2.2.2.2.2.2.2.2.1,x28.2.2.2.2.2.2.2.2.2.2.2.1,x28.2.2.2.2.2.2.2.2.2.2.2.2.1,x28.2.2.2.2.2.2.2.2.2.2.2.2.2.1,x28.2.2.2.2.2.2.2.2.2.2.2.2.2.2.1,x28.2.2.2.2.2.2.2.2.2.2.2.2.2.2.2.1,x28.2.2.2.2.2.2.2.2.2.2.2.2.2.2.2.2))) (ja (apO 24 x28.2.2.2.2.2.2.2.2.2.2.2.2.2.2.2.1 [x28.2.2.2.2.2.2.2.2.2.2.2.1]) fun x39=>ja (atL x28.2.2.2.2.2.1.2.2.2.1 x28.1) fun x40=>ja (apO 8 x28.2.2.2.2.2.2.2.2.2.2.2.2.2.2.2.2 [x40]) fun x41=>ja (some (w64 (x28.2.2.1+1))) fun x42=>x22 (x28.2.1,x42,x28.2.2.2.2.2.1,x28.2.2.2.2.2.2.1,x28.2.2.2.2.2.2.2.1,x28.2.2.2.2.2.2.2.2.1,x28.2.2.2.2.2.2.2.2.2.1,x28.2.2.2.2.2.2.2.2.2.2.1,x28.2.2.2.2.2.2.2.2.2.2.2.2.1,x28.2.2.2.2.2.2.2.2.2.2.2.2.2.1,x28.2.2.2.2.2.2.2.2.2.2.2.2.2.2.1,x39,x41))) nn (x24,x21.1,x21.2.1,(x27.2.length:Int),0,x21.2.2.1,x21.2.2.2.1,x21.2.2.2.2.1,x21.2.2.2.2.2.1,x21.2.2.2.2.2.2.1,x21.2.2.2.2.2.2.2.1,x27.2,x21.2.2.2.2.2.2.2.2.1,x21.2.2.2.2.2.2.2.2.2.1,x21.2.2.2.2.2.2.2.2.2.2.1,x21.2.2.2.2.2.2.2.2.2.2.2.1,x21.2.2.2.2.2.2.2.2.2.2.2.2)) (some (x21.2.2.2.2.2.2.1,x21.2.2.2.2.2.2.2.1,x21.2.2.2.2.2.2.2.2.2.2.2.1,x21.2.2.2.2.2.2.2.2.2.2.2.2,()))) nn ((x6.2.2.2.2.2.2.2.2.1.length:Int),0,x6.2.2.2.2.1,x6.2.2.2.2.2.1,x6.2.2.2.2.2.2.1,x6.2.2.2.2.2.2.2.1,x6.2.2.2.2.1.1,x6.2.2.2.2.1.2.1,x6.2.2.2.2.2.2.2.2.1,x6.2.2.2.2.2.2.2.2.2.1,x6.2.2.2.2.2.2.2.2.2.2,[],[]))) nn (x2,x3,((List.replicate x5 (0:Int)).length:Int),0,a0,⟨List.replicate 256 0,List.length_replicate⟩,0,(List.replicate x5 (0:Int)),[],[],[]))
noncomputable def zxc:=lk (α:=HK) [(506, .meet ⟨[(1, .pt 0 0),(2, .pt 1 0),(3, .v (.sl .bool)),(4, .v (.sl .bool)),(5, .own 2),(6, .own 3),(27, .v (.int .i64)),(28, .v (.int .i64))],[(0, .box 33 [.v Y_api_Dfa]),(1, .box 33 [.v (.arr 256 (.int .u8)), .v (.int .i64), .own 4, .own 5]),(2, .row 3 (.int .i64)),(3, .row 3 (.int .i64)),(4, .row 31 (.sl (.int .i64))),(5, .row 3 (.int .i64))],6⟩),(2042, .meet ⟨[(1, .pt 0 0),(2, .pt 1 0),(5, .own 2),(8, .pt 3 0),(63, .own 4),(64, .v (.int .i64)),(65, .v (.int .i64))],[(0, .box 33 [.v Y_api_Dfa]),(1, .box 33 [.v (.arr 256 (.int .u8)), .v (.int .i64), .own 5, .own 6]),(2, .row 3 (.int .i64)),(3, .box 33 [.v (.arr 256 (.int .u8)), .v (.int .i64), .own 7, .own 8]),(4, .row 3 (.int .i64)),(5, .row 31 (.sl (.int .i64))),(6, .row 3 (.int .i64)),(7, .row 31 (.sl (.int .i64))),(8, .row 3 (.int .i64))],9⟩),(8102, .meet ⟨[(1, .pt 0 0),(2, .pt 1 0),(3, .v (.sl .bool)),(4, .v (.sl .bool)),(5, .own 2),(6, .own 3),(27, .v (.int .i64)),(28, .v (.int .i64))],[(0, .box 33 [.v Y_api_Dfa]),(1, .box 33 [.v (.arr 256 (.int .u8)), .v (.int .i64), .own 4, .own 5]),(2, .row 3 (.int .i64)),(3, .row 3 (.int .i64)),(4, .row 31 (.sl (.int .i64))),(5, .row 3 (.int .i64))],6⟩),(129638, .meet ⟨[(1, .pt 0 0),(2, .pt 1 0),(3, .v (.sl .bool)),(4, .v (.sl .bool)),(5, .own 2),(6, .own 3),(7, .v (.int .i64)),(27, .v (.int .i64)),(28, .v (.int .i64)),(47, .v .bool)],[(0, .box 33 [.v Y_api_Dfa]),(1, .box 33 [.v (.arr 256 (.int .u8)), .v (.int .i64), .own 4, .own 5]),(2, .row 3 (.int .i64)),(3, .row 3 (.int .i64)),(4, .row 31 (.sl (.int .i64))),(5, .row 3 (.int .i64))],6⟩),(4182842, .meet ⟨[(1, .pt 0 0),(2, .pt 1 0),(5, .own 2),(8, .pt 3 0),(10, .v (.int .i64)),(11, .own 4),(63, .own 5),(64, .v (.int .i64)),(65, .v (.int .i64)),(79, .own 4),(80, .v (.int .i64)),(81, .v (.int .i64))],[(0, .box 33 [.v Y_api_Dfa]),(1, .box 33 [.v (.arr 256 (.int .u8)), .v (.int .i64), .own 6, .own 7]),(2, .row 3 (.int .i64)),(3, .box 33 [.v (.arr 256 (.int .u8)), .v (.int .i64), .own 8, .own 9]),(4, .row 3 (.int .i64)),(5, .row 3 (.int .i64)),(6, .row 31 (.sl (.int .i64))),(7, .row 3 (.int .i64)),(8, .row 31 (.sl (.int .i64))),(9, .row 3 (.int .i64))],10⟩),(66925478, .meet ⟨[(1, .pt 0 0),(2, .pt 1 0),(5, .own 2),(8, .pt 3 0),(10, .v (.int .i64)),(11, .own 4),(63, .own 5),(64, .v (.int .i64)),(65, .v (.int .i64)),(79, .own 4),(80, .v (.int .i64)),(81, .v (.int .i64))],[(0, .box 33 [.v Y_api_Dfa]),(1, .box 33 [.v (.arr 256 (.int .u8)), .v (.int .i64), .own 6, .own 7]),(2, .row 3 (.int .i64)),(3, .box 33 [.v (.arr 256 (.int .u8)), .v (.int .i64), .own 8, .own 9]),(4, .row 3 (.int .i64)),(5, .row 3 (.int .i64)),(6, .row 31 (.sl (.int .i64))),(7, .row 3 (.int .i64)),(8, .row 31 (.sl (.int .i64))),(9, .row 3 (.int .i64))],10⟩)]
noncomputable abbrev zxn (nn:Nat):PF:=⟨[Y_api_Dfa],Y_api_Dfa,fun t=>za7 nn t⟩
set_option maxRecDepth 100000 in
theorem zna (nn:Nat):qe 27 (zxn nn):=mk1 Tryz.func27 nn 0 [(0,[24,35,57,95,112])] [(0,[(55, .told (.int .i64)),(99, .ownx),(109, .told (.int .i64))])] [(1668,[(99,(.sl (.sl (.int .i64))))])] [] itn zxc rn gn (tc (P_dfa_Right_ok nn) (tc (za8 nn) (tc (zlc nn) tn))) (by kernel_rfl) fun t=>by kernel_rfl
noncomputable def Vp (nn:Nat) (a0:jb):Option (D_api_Dfa×(List (List Int))×jk×Unit):=J (fun(x1:jb×(Arr 256 Int)×jk×jb×D_api_Dfa×jk×(List (List Int))×(List Int)×(List (List Int)))=>ifB (decide (¬ x1.2.2.2.2.2.1.1=0)) (some ((⟨List.replicate 256 0,List.length_replicate⟩,0,[],[],()),[],x1.2.2.2.2.2.1,())) (ja (z6 nn x1.1) fun x3=>ja (za7 nn x1.2.2.2.2.1) fun x4=>some (x4,x3.1,x1.2.2.2.2.2.1,()))) fun x2=>ja (Ju nn (some (a0,(⟨List.replicate 256 0,List.length_replicate⟩,0,[],[],()),[],()))) fun x5=>ifB (decide (¬ x5.1=0)) (x2 (a0,⟨List.replicate 256 0,List.length_replicate⟩,(0,0,0,()),a0,(⟨List.replicate 256 0,List.length_replicate⟩,0,[],[],()),x5,[],[],[])) (ja (J0 nn (some (a0,(⟨List.replicate 256 0,List.length_replicate⟩,0,[],[],()),[],()))) fun x6=>ifB (decide (¬ x6.1=0)) (x2 (a0,⟨List.replicate 256 0,List.length_replicate⟩,(0,0,0,()),a0,(⟨List.replicate 256 0,List.length_replicate⟩,0,[],[],()),x6,[],[],[])) (ja (J2 nn (some (a0,(⟨List.replicate 256 0,List.length_replicate⟩,0,[],[],()),[],()))) fun x7=>ifB (decide (¬ x7.1=0)) (x2 (a0,⟨List.replicate 256 0,List.length_replicate⟩,(0,0,0,()),a0,(⟨List.replicate 256 0,List.length_replicate⟩,0,[],[],()),x7,[],[],[])) (ja (J3 nn (some (a0,(⟨List.replicate 256 0,List.length_replicate⟩,0,[],[],()),[],()))) fun x8=>ifB (decide (¬ x8.1=0)) (x2 (a0,⟨List.replicate 256 0,List.length_replicate⟩,(0,0,0,()),a0,(⟨List.replicate 256 0,List.length_replicate⟩,0,[],[],()),x8,[],[],[])) (ja (Jx nn (some (a0,(⟨List.replicate 256 0,List.length_replicate⟩,0,[],[],()),[],()))) fun x9=>ifB (decide (¬ x9.1=0)) (x2 (a0,⟨List.replicate 256 0,List.length_replicate⟩,(0,0,0,()),a0,(⟨List.replicate 256 0,List.length_replicate⟩,0,[],[],()),x9,[],[],[])) (J (fun(x10:jb×(Arr 256 Int)×jk×jb×D_api_Dfa×jk×(List (List Int))×(List Int)×(List (List Int)))=>ifB (decide (¬ x10.2.2.2.2.2.1.1=0)) (x2 (x10.1,x10.2.1,x10.2.2.1,x10.2.2.2.1,x10.2.2.2.2.1,x10.2.2.2.2.2.1,x10.2.2.2.2.2.2.1,x10.2.2.2.2.2.2.2.1,x10.2.2.2.2.2.2.2.2)) (ja (yi nn (some (x10.2.2.2.1,x10.2.2.2.2.1,x10.2.2.2.2.2.2.2.2,()))) fun x12=>ifB (decide (¬ x12.1=0)) (x2 (x10.1,x10.2.1,x10.2.2.1,x10.2.2.2.1,x10.2.2.2.2.1,x12,x10.2.2.2.2.2.2.1,x10.2.2.2.2.2.2.2.1,x10.2.2.2.2.2.2.2.2)) (x2 (x10.1,x10.2.1,x10.2.2.1,x10.2.2.2.1,x10.2.2.2.2.1,x12,x10.2.2.2.2.2.2.1,x10.2.2.2.2.2.2.2.1,x10.2.2.2.2.2.2.2.2)))) fun x11=>ja (za3 nn a0.1) fun x13=>ja (zbe nn x13 a0.2.2.2.2.1) fun x14=>ifB (decide (¬ x14.2.2.1=0)) (x11 (a0,⟨List.replicate 256 0,List.length_replicate⟩,(0,0,0,()),a0,(⟨List.replicate 256 0,List.length_replicate⟩,0,[],[],()),(16,0,0,()),[],[],[])) (x11 (a0,⟨List.replicate 256 0,List.length_replicate⟩,(0,0,0,()),a0,x14.1,(0,0,0,()),[],[],[])))))))
noncomputable def zm1:=lk (α:=HK) [(221, .meet ⟨[(1, .pt 0 0),(2, .pt 1 0),(4, .pt 2 0),(5, .pt 3 0),(6, .pt 4 0)],[(0, .box 26 [.v Y_api_Grammar]),(1, .box 33 [.v (.arr 256 (.int .u8)), .ci .i64 (0), .own 5, .own 6]),(2, .box 36 [.v jl]),(3, .box 69 [.v Y_api_Grammar, .v Y_api_Dfa, .own 7]),(4, .box 36 [.v jl]),(5, .row 31 (.sl (.int .i64))),(6, .row 3 (.int .i64)),(7, .row 31 (.sl (.int .i64)))],8⟩),(442, .unroll 24),(1814450, .meet ⟨[(1, .pt 0 0),(2, .pt 1 0),(4, .pt 2 0),(5, .pt 3 0),(6, .pt 4 0),(12, .own 5),(13, .ci .i64 (7)),(14, .ci .i64 (5))],[(0, .box 26 [.v Y_api_Grammar]),(1, .box 33 [.v (.arr 256 (.int .u8)), .ci .i64 (0), .own 6, .own 7]),(2, .box 36 [.v jl]),(3, .box 69 [.v Y_api_Grammar, .v Y_api_Dfa, .own 8]),(4, .box 36 [.v jl]),(5, .rowx 74 1 [.agg [.fn 56 [] []], .agg [.fn 58 [] []], .agg [.fn 62 [] []], .agg [.fn 65 [] []], .agg [.fn 68 [] []], .agg [.fn 70 [] []], .agg [.fn 71 [] []]]),(6, .row 31 (.sl (.int .i64))),(7, .row 3 (.int .i64)),(8, .row 31 (.sl (.int .i64)))],9⟩)]
noncomputable def zgw:=lk (α:=HK) []
noncomputable def zhd:=lk (α:=HK) []
noncomputable abbrev zni (nn:Nat):PF:=⟨[Y_api_Grammar],(.tup (.cons Y_api_Dfa (.cons (.sl (.sl (.int .i64))) (.cons jl .nil)))),fun t=>Vp nn t⟩
set_option maxRecDepth 100000 in
theorem zh1 (nn:Nat):qe 9 (zni nn):=mk1 Tryz.func9 nn 9 [] [(1,[(8, .ownx)])] [] [] (itc 1920025 Tryz.func25 zgw 1 [] (itc 3870070 Tryz.func70 zhd 2 [] itn (by kernel_rfl)) (by kernel_rfl)) zm1 rn gn (tc (zia nn) (tc (zna nn) (tc (ze1 nn) (tc (ze4 nn) (tc (ze5 nn) (tc (zfa nn) (tc (zfe nn) (tc (zam nn) (tc (zm5 nn) (tc (zpi nn) tn)))))))))) (by kernel_rfl) fun t=>by kernel_rfl
noncomputable def yz (nn:Nat) (a0:jb):Option jk:=ja (Vp nn a0) fun x1=>some x1.2.2.1
noncomputable def zky:=lk (α:=HK) []
noncomputable abbrev zl8 (nn:Nat):PF:=⟨[Y_api_Grammar],jl,fun t=>yz nn t⟩
set_option maxRecDepth 100000 in
theorem zai (nn:Nat):qe 13 (zl8 nn):=mk1 Tryz.func13 nn 0 [] [] [] [] itn zky rn gn (tc (zh1 nn) tn) (by kernel_rfl) fun t=>by kernel_rfl
noncomputable def zhi (nn:Nat) (a0:(Arr 4 Int)) (a1:Int):Option (Arr 4 Int):=ja (zuj .i64 a1 64) fun x1=>ja (zuj .i64 a1 64) fun x2=>ja (qz 4 x2) fun x3=>ja (atL a0.l x3) fun x4=>ja (zyd .u64 (wr .u64 a1) 64) fun x5=>ja (z0b .u64 1 x5) fun x6=>ja (qz 4 x1) fun x7=>ja (zqw a0 x7 (orI .u64 x4 x6)) fun x8=>some x8
noncomputable def zug:=lk (α:=HK) []
noncomputable abbrev zuu (nn:Nat):PF:=⟨[(.arr 4 (.int .u64)),(.int .i64)],(.arr 4 (.int .u64)),fun t=>zhi nn (t.1) (t.2)⟩
set_option maxRecDepth 100000 in
theorem zmd (nn:Nat):qe 91 (zuu nn):=mk1 Tryz.func91 nn 0 [] [] [] [] itn zug rn gn tn (by kernel_rfl) fun t=>by kernel_rfl
noncomputable def zkb (nn:Nat) (a0:Int):Option (Arr 4 Int):=ja (zhi nn (⟨List.replicate 4 0,List.length_replicate⟩) (wr .i64 a0)) fun x1=>some x1
noncomputable def zwh:=lk (α:=HK) []
noncomputable abbrev zyn (nn:Nat):PF:=⟨[(.int .u8)],(.arr 4 (.int .u64)),fun t=>zkb nn t⟩
set_option maxRecDepth 100000 in
theorem zos (nn:Nat):qe 54 (zyn nn):=mk1 Tryz.func54 nn 0 [] [] [] [] itn zwh rn gn (tc (zmd nn) tn) (by kernel_rfl) fun t=>by kernel_rfl
noncomputable def zd7 (nn:Nat) (a0:(Arr 4 Int)):Option (List jj):=some [(1,a0,())]
noncomputable def zxu:=lk (α:=HK) []
noncomputable abbrev zyz (nn:Nat):FF:=⟨[(.arr 4 (.int .u64))],126,Y_api_Rx,fun t=>zd7 nn t⟩
set_option maxRecDepth 100000 in
theorem zpo (nn:Nat):FFOk 53 (zyz nn):=mk2 Tryz.func53 nn 0 [] [(0,[(5, .own Y_api_Rx)])] [] [] itn zxu rn gn tn (by kernel_rfl) fun t=>by kernel_rfl
noncomputable abbrev zyr (nn:Nat):PF:=⟨[(.arr 4 (.int .u64))],(.sl Y_api_Rx),fun t=>zd7 nn t⟩
theorem zpg (nn:Nat):qe 53 (zyr nn):=(zpo nn).pure
noncomputable def zfh (nn:Nat):Option (List jj):=some [(2,⟨List.replicate 4 0,List.length_replicate⟩,())]
noncomputable def zp9:=lk (α:=HK) []
noncomputable abbrev zq1 (nn:Nat):FF:=⟨[],126,Y_api_Rx,fun t=>zfh nn⟩
set_option maxRecDepth 100000 in
theorem ziw (nn:Nat):FFOk 92 (zq1 nn):=mk2 Tryz.func92 nn 0 [] [(0,[(2, .own Y_api_Rx)])] [] [] itn zp9 rn gn tn (by kernel_rfl) fun t=>by kernel_rfl
noncomputable abbrev zrc:=zfh
noncomputable def zh4 (nn:Nat) (a0:(List (List jj))) (a1:Int):Option (List jj):=jt (fun(x1:(List (List jj))×Int×Int×(List jj)) x2=>ifB (decide (x1.2.2.1<(x1.1.length:Int))) (J (fun(x3:(List (List jj))×Int×Int×(List jj))=>ja (some (w64 (x3.2.2.1+1))) fun x5=>x2 (x3.1,x3.2.1,x5,x3.2.2.2)) fun x4=>ja (atL x1.1 x1.2.2.1) fun x6=>ja (apO 40 x1.2.2.2 x6) fun x7=>ifB (decide (0<x1.2.2.1)) (ja (apO 40 x7 [(x1.2.1,⟨List.replicate 4 0,List.length_replicate⟩,())]) fun x8=>x4 (x1.1,x1.2.1,x1.2.2.1,x8)) (x4 (x1.1,x1.2.1,x1.2.2.1,x7))) (some x1.2.2.2)) nn (a0,a1,0,[])
noncomputable def zs6:=lk (α:=HK) [(58, .meet ⟨[(0, .v (.sl (.sl Y_api_Rx))),(1, .v (.int .i64)),(5, .own 0),(6, .v (.int .i64))],[(0, .row 126 Y_api_Rx)],1⟩),(466, .meet ⟨[(0, .v (.sl (.sl Y_api_Rx))),(1, .v (.int .i64)),(5, .own 0),(6, .v (.int .i64))],[(0, .row 126 Y_api_Rx)],1⟩)]
noncomputable abbrev zvm (nn:Nat):FF:=⟨[(.sl (.sl Y_api_Rx)),(.int .i64)],126,Y_api_Rx,fun t=>zh4 nn (t.1) (t.2)⟩
set_option maxRecDepth 100000 in
theorem zk5 (nn:Nat):FFOk 93 (zvm nn):=mk2 Tryz.func93 nn 0 [(0,[13])] [(0,[(7, .own Y_api_Rx),(25, .told Y_api_Rx)])] [] [] itn zs6 rn gn tn (by kernel_rfl) fun t=>by kernel_rfl
noncomputable abbrev zv4:=zh4
noncomputable def zkq (nn:Nat) (a0:(List (List jj))):Option (List jj):=ifB (decide ((a0.length:Int)=0)) (ja (zrc nn) fun x1=>some x1) (ja (zv4 nn a0 3) fun x2=>some x2)
noncomputable def zyj:=lk (α:=HK) []
noncomputable abbrev zyl (nn:Nat):FF:=⟨[(.sl (.sl Y_api_Rx))],126,Y_api_Rx,fun t=>zkq nn t⟩
set_option maxRecDepth 100000 in
theorem zor (nn:Nat):FFOk 55 (zyl nn):=mk2 Tryz.func55 nn 0 [] [] [] [128,193] itn zyj rn (gc (ziw nn) (gc (zk5 nn) gn)) tn (by kernel_rfl) fun t=>by kernel_rfl
noncomputable abbrev zzl:=zkq
noncomputable def Zq (nn:Nat) (a0:(List UInt8)):Option (List jj):=jt (fun(x1:(List UInt8)×Int×(List (List jj))) x2=>ifB (decide (x1.2.1<(x1.1.length:Int))) (ja (zzt x1.1 x1.2.1) fun x3=>ja (zkb nn x3) fun x4=>ja (zd7 nn x4) fun x5=>ja (apO 24 x1.2.2 [x5]) fun x6=>ja (some (w64 (x1.2.1+1))) fun x7=>x2 (x1.1,x7,x6)) (ja (zzl nn x1.2.2) fun x8=>some x8)) nn (a0,0,[])
noncomputable def zvg:=lk (α:=HK) [(58, .meet ⟨[(0, .v .str),(3, .own 0),(4, .v (.int .i64))],[(0, .row 45 (.sl Y_api_Rx))],1⟩)]
noncomputable abbrev zs9 (nn:Nat):FF:=⟨[.str],126,Y_api_Rx,fun t=>Zq nn t⟩
set_option maxRecDepth 100000 in
theorem zk3 (nn:Nat):FFOk 24 (zs9 nn):=mk2 Tryz.func24 nn 0 [(0,[11])] [(0,[(5, .own (.sl Y_api_Rx)),(18, .told (.sl Y_api_Rx))])] [] [385] itn zvg rn (gc (zor nn) gn) (tc (zpg nn) (tc (zos nn) tn)) (by kernel_rfl) fun t=>by kernel_rfl
noncomputable abbrev zvl (nn:Nat):PF:=⟨[.str],(.sl Y_api_Rx),fun t=>Zq nn t⟩
theorem zma (nn:Nat):qe 24 (zvl nn):=(zk3 nn).pure
noncomputable def Qg (nn:Nat):Option Bool:=ja (Zq nn [97]) fun x1=>ja (Zq nn [97]) fun x2=>J (fun(x3:Bool)=>some x3) fun x4=>ja (yz nn ([([97],x1,0,())],[[115]],[(0,[(true,0,0,0,()),(false,0,0,0,())],())],0,9,1,1,1,())) fun x5=>ja (some (z21 [x5.1 == (14,0,0,()).1,x5.2.1 == (14,0,0,()).2.1,x5.2.2.1 == (14,0,0,()).2.2.1])) fun x6=>ifB x6 (ja (yz nn ([([97],x1,0,()),([98],x2,0,())],[[115]],[(0,[(false,0,0,0,())],())],0,9,1,1,1,())) fun x7=>x4 (z21 [x7.1 == (13,1,1,()).1,x7.2.1 == (13,1,1,()).2.1,x7.2.2.1 == (13,1,1,()).2.2.1])) (x4 false)
noncomputable def zp5:=lk (α:=HK) [(126, .meet ⟨[(0, .v .bool)],[],0⟩)]
noncomputable abbrev zq8 (nn:Nat):PF:=⟨[], .bool,fun t=>Qg nn⟩
set_option maxRecDepth 100000 in
theorem zjl (nn:Nat):qe 8 (zq8 nn):=mk1 Tryz.func8 nn 0 [(0,[30])] [(0,[(10, .told Y_api_Token),(11, .told .str),(14, .told Y_api_Item),(16, .told Y_api_Prod),(20, .told Y_api_Token),(21, .told .str),(23, .told Y_api_Item),(25, .told Y_api_Prod)])] [] [] itn zp5 rn gn (tc (zai nn) (tc (zma nn) tn)) (by kernel_rfl) fun t=>by kernel_rfl
noncomputable def qy (nn:Nat) (rec:(jb×(List jf)×(List Int)×Int)→Option Int) (a0:jb) (a1:(List jf)) (a2:(List Int)) (a3:Int):Option Int:=ifB (decide (a3=0)) (some 0) (ifB (decide ((a1.length:Int)=0)) (ifB (decide ((a2.length:Int)=0)) (some 1) (some 0)) (ja (atL a1 0) fun x1=>ifB (!x1.1) (J (fun(x2:(List jf)×(List Int)×Int×Bool×jb)=>ifB x2.2.2.2.1 (some 0) (ja (zb3 x2.1 (some 1) none) fun x4=>ja (zb3 x2.2.1 (some 1) none) fun x5=>ja (rec (x2.2.2.2.2,x4,x5,(w64 (x2.2.2.1-1)))) fun x6=>some x6)) fun x3=>ja (some (decide ((a2.length:Int)=0))) fun x7=>ifB x7 (x3 (a1,a2,a3,true,a0)) (ja (atL a2 0) fun x8=>ja (atL a1 0) fun x9=>x3 (a1,a2,a3,decide (¬ x8=x9.2.1),a0))) (jt (fun(x10:(List jf)×(List Int)×Int×Int×Int×jb) x11=>J (fun(x12:(List jf)×(List Int)×Int×Int×Int×Bool×jb)=>ifB x12.2.2.2.2.2.1 (J (fun(x14:(List jf)×(List Int)×Int×Int×Int×jb)=>ja (some (w64 (x14.2.2.2.2.1+1))) fun x16=>x11 (x14.1,x14.2.1,x14.2.2.1,x14.2.2.2.1,x16,x14.2.2.2.2.2)) fun x15=>ja (atL x12.2.2.2.2.2.2.2.2.1 x12.2.2.2.2.1) fun x17=>ja (atL x12.1 0) fun x18=>ifB (decide (x17.1=x18.2.1)) (ja (atL x12.2.2.2.2.2.2.2.2.1 x12.2.2.2.2.1) fun x19=>ja (apO 32 [] x19.2.1) fun x20=>ja (zb3 x12.1 (some 1) none) fun x21=>ja (apO 32 x20 x21) fun x22=>ja (rec (x12.2.2.2.2.2.2,x22,x12.2.1,(w64 (x12.2.2.1-1)))) fun x23=>ja (some (w64 (x12.2.2.2.1+x23))) fun x24=>x15 (x12.1,x12.2.1,x12.2.2.1,x24,x12.2.2.2.2.1,x12.2.2.2.2.2.2)) (x15 (x12.1,x12.2.1,x12.2.2.1,x12.2.2.2.1,x12.2.2.2.2.1,x12.2.2.2.2.2.2))) (some (min x12.2.2.2.1 2))) fun x13=>ja (some (decide (x10.2.2.2.2.1<(x10.2.2.2.2.2.2.2.1.length:Int)))) fun x25=>ifB x25 (x13 (x10.1,x10.2.1,x10.2.2.1,x10.2.2.2.1,x10.2.2.2.2.1,decide (x10.2.2.2.1<2),x10.2.2.2.2.2)) (x13 (x10.1,x10.2.1,x10.2.2.1,x10.2.2.2.1,x10.2.2.2.2.1,false,x10.2.2.2.2.2))) nn (a1,a2,a3,0,0,a0))))
noncomputable def qd (nn:Nat):Nat→DL [Y_api_Grammar,(.sl Y_api_Item),(.sl (.int .i64)),(.int .i64)]→Option (Ty.D (.int .i64))
 | 0,_=>none
 | m+1,t=>qy nn (qd nn m) (t.1) (t.2.1) (t.2.2.1) (t.2.2.2)
noncomputable def Zn (nn:Nat) (a0:jb) (a1:(List jf)) (a2:(List Int)) (a3:Int):Option Int:=qd nn nn (a0,a1,a2,a3)
noncomputable def ze0:=lk (α:=HK) [(488, .meet ⟨[(1, .v (.sl Y_api_Item)),(2, .v (.sl (.int .i64))),(3, .v (.int .i64)),(4, .pt 0 0),(37, .v .bool)],[(0, .box 26 [.v Y_api_Grammar])],1⟩),(506, .meet ⟨[(1, .v (.sl Y_api_Item)),(2, .v (.sl (.int .i64))),(3, .v (.int .i64)),(4, .pt 0 0),(9, .v (.int .i64)),(10, .v (.int .i64))],[(0, .box 26 [.v Y_api_Grammar])],1⟩),(4048, .meet ⟨[(1, .v (.sl Y_api_Item)),(2, .v (.sl (.int .i64))),(3, .v (.int .i64)),(4, .pt 0 0),(9, .v (.int .i64)),(10, .v (.int .i64)),(54, .v .bool)],[(0, .box 26 [.v Y_api_Grammar])],1⟩),(4050, .meet ⟨[(1, .v (.sl Y_api_Item)),(2, .v (.sl (.int .i64))),(3, .v (.int .i64)),(4, .pt 0 0),(9, .v (.int .i64)),(10, .v (.int .i64))],[(0, .box 26 [.v Y_api_Grammar])],1⟩)]
set_option maxRecDepth 100000 in
theorem zcv (nn:Nat):∀ m,qe 19 ⟨[Y_api_Grammar,(.sl Y_api_Item),(.sl (.int .i64)),(.int .i64)],(.int .i64),qd nn m⟩:=mk3 (ats:=[Y_api_Grammar,(.sl Y_api_Item),(.sl (.int .i64)),(.int .i64)]) (rt:=(.int .i64)) (b:=fun rec t=>qy nn rec (t.1) (t.2.1) (t.2.2.1) (t.2.2.2)) (q:=qd nn) Tryz.func19 nn 0 [(0,[27,50,56,86])] [(0,[(68, .own Y_api_Item)])] [] [] itn ze0 rn gn (fun rec h=>tc h tn) (by kernel_rfl) (fun rec t=>by kernel_rfl) (fun _=>rfl) fun _ _=>rfl
noncomputable abbrev ze2 (nn:Nat):PF:=⟨[Y_api_Grammar,(.sl Y_api_Item),(.sl (.int .i64)),(.int .i64)],(.int .i64),qd nn nn⟩
theorem zci (nn:Nat):qe 19 (ze2 nn):=zcv nn nn
noncomputable def Jf (nn:Nat) (a0:jb) (a1:(List Int)):Option Bool:=J (fun(x1:(List Int)×Bool×jb)=>ifB x1.2.1 (ja (Qg nn) fun x3=>some x3) (J (fun(x4:Bool)=>some x4) fun x5=>ja (Zn nn x1.2.2 [(true,x1.2.2.2.2.2.1,0,0,())] x1.1 14) fun x6=>ja (some (decide (x6<2))) fun x7=>ifB x7 (ja (Qg nn) fun x8=>x5 x8) (x5 false))) fun x2=>ja (Ym nn a0) fun x9=>ja (some (!x9)) fun x10=>ifB x10 (x2 (a1,true,a0)) (ifB (decide (6<(a1.length:Int))) (x2 (a1,true,a0)) (ifB (decide (8<(a0.2.2.1.length:Int))) (x2 (a1,true,a0)) (ja (yz nn a0) fun x11=>x2 (a1,!(z21 [x11.1 == (0,0,0,()).1,x11.2.1 == (0,0,0,()).2.1,x11.2.2.1 == (0,0,0,()).2.2.1]),a0))))
noncomputable def zg7:=lk (α:=HK) [(12, .meet ⟨[(1, .v (.sl (.int .i64))),(2, .pt 0 0),(24, .v .bool)],[(0, .box 26 [.v Y_api_Grammar])],1⟩),(14, .meet ⟨[(4, .v .bool)],[],0⟩)]
noncomputable abbrev P_law25_AcceptOne (nn:Nat):PF:=⟨[Y_api_Grammar,(.sl (.int .i64))], .bool,fun t=>Jf nn (t.1) (t.2)⟩
set_option maxRecDepth 100000 in
theorem P_law25_AcceptOne_ok (nn:Nat):qe 5 (P_law25_AcceptOne nn):=mk1 Tryz.func5 nn 0 [(0,[7,33])] [(0,[(30, .told Y_api_Item)])] [] [] itn zg7 rn gn (tc (zii nn) (tc (zjl nn) (tc (zai nn) (tc (zci nn) tn)))) (by kernel_rfl) fun t=>by kernel_rfl
end Go.Proofs.YtdllbdlnmjngcaaGreat.T

namespace Go.Proofs.YtdllbdlnmjngcaaGreat
open Go Go.RowKit L
set_option linter.unusedVariables false
set_option linter.unusedSimpArgs false
def at' {α:Type} [Inhabited α] (l:List α) (z:Int):α:=l.getD z.toNat default
theorem zgb {α:Type} [Inhabited α] {l:List α} {k:Nat} (h:k<l.length):at' l (k:Int)=l[k]:=by
 unfold at';simp[h]
theorem idx_at {α:Type} [Inhabited α] {l:List α} {z:Int} (h0:0≤z) (h1:z<l.length):idx l z=some (at' l z):=by
 obtain⟨k,rfl⟩:=Int.eq_ofNat_of_zero_le h0
 have hk:k<l.length:=by omega
 rw[zgb hk];exact jbq (List.getElem?_eq_getElem hk)
theorem zdz {α:Type} [Inhabited α] {l:List α} {z:Int} (h0:0≤z) (h1:z<l.length):at' l z∈l:=by
 obtain⟨k,rfl⟩:=Int.eq_ofNat_of_zero_le h0
 have hk:k<l.length:=by omega
 rw[zgb hk];exact List.getElem_mem hk
theorem jam {α:Type} [Inhabited α] {l:List α} {z:Int} {v:α} (h0:0≤z) (h1:z<l.length):at' (l.set z.toNat v) z=v:=by
 unfold at';simp[show z.toNat<l.length by omega]
theorem at_ne {α:Type} [Inhabited α] {l:List α} {z y:Int} {v:α} (h0:0≤z) (hy:0≤y) (h:z≠y):at' (l.set z.toNat v) y=at' l y:=by
 unfold at';simp only[List.getD_eq_getElem?_getD];rw[List.getElem?_set_ne (by omega)]
theorem jbw {l:List Bool} {k:Nat}:at' l (k:Int)=true↔onB l k:=by
 unfold at' onB
 simp only[Int.toNat_natCast,List.getD_eq_getElem?_getD]
 cases h:l[k]? with
 | none=>simp
 | some b=>simp
theorem z55 {l:List Bool} {z:Int} (h0:0≤z):at' l z=true↔onB l z.toNat:=by
 obtain⟨k,rfl⟩:=Int.eq_ofNat_of_zero_le h0
 exact jbw
theorem qv {p:Prop} [Decidable p] (h:p):decide p=true:=decide_eq_true h
theorem qu {p:Prop} [Decidable p] (h:¬p):decide p=false:=decide_eq_false h
section
variable {α β γ : Type} {Q : γ → Prop}
theorem Tot.idx [Inhabited α] {l:List α} {z:Int} {f:α→G γ} (h0:0≤z) (h1:z<l.length) (h:Tot (f (at' l z)) Q):Tot (G.bind (G.lift (L.idx l z)) f) Q := .bind (.lift (idx_at h0 h1) h)
theorem Tot.someB {o:Option α} {a:α} {f:α→G γ} (h:o=some a) (h2:Tot (f a) Q):Tot (G.bind (G.lift o) f) Q := .bind (.lift h h2)
theorem Tot.apnd {b:Nat} {xs ys:List α} {f:List α→G γ} (h1:(xs.length+ys.length)*b≤140737488355328) (h2:xs.length+ys.length≤140737488355328) (h:Tot (f (xs++ys)) Q):Tot (G.bind (G.lift (app b xs ys)) f) Q:=Tot.someB (z1e h1 h2) h
theorem Tot.mk {b:Nat} {z:α} {n:Int} {f:List α→G γ} (h0:0≤n) (h1:b*n.toNat≤281474976710656) (h2:n.toNat≤281474976710656) (h:Tot (f (List.replicate n.toNat z)) Q):Tot (G.bind (G.lift (mkS b z n)) f) Q:=by
 obtain⟨k,rfl⟩:=Int.eq_ofNat_of_zero_le h0
 exact Tot.someB (mkS_of (by simpa using h1) (by simpa using h2)) h
theorem Tot.bp {a:α} {f:α→G γ} (h:Tot (f a) Q):Tot (G.bind (G.pure a) f) Q:=h
theorem G.bb {m:G α} {f:α→G β} {g:β→G γ}:G.bind (G.bind m f) g=G.bind m fun a=>G.bind (f a) g:=by
 funext n
 unfold G.bind
 cases m n<;>rfl
theorem Tot.bb {m:G α} {f:α→G β} {g:β→G γ} (h:Tot (G.bind m fun a=>G.bind (f a) g) Q):Tot (G.bind (G.bind m f) g) Q:=by rw[G.bb];exact h
theorem Tot.bc {b:Bool} {x y:G α} {f:α→G γ} (h:Tot (G.cond b (G.bind x f) (G.bind y f)) Q):Tot (G.bind (G.cond b x y) f) Q:=by
 cases b<;>exact h
theorem Tot.ct {b:Bool} {x y:G γ} (hb:b=true) (h:Tot x Q):Tot (G.cond b x y) Q:=by subst hb;exact h
theorem Tot.cf {b:Bool} {x y:G γ} (hb:b=false) (h:Tot y Q):Tot (G.cond b x y) Q:=by subst hb;exact h
theorem Tot.rdx [Inhabited α] {l:List α} {z:Int} {f:α→G γ} (h:0≤z∧z<l.length) (h2:Tot (f (at' l z)) Q):Tot (G.bind (G.lift (L.idx l z)) f) Q:=Tot.idx h.1 h.2 h2
theorem Tot.apx {b:Nat} {xs ys:List α} {f:List α→G γ} (h:(xs.length+ys.length)*b≤140737488355328∧xs.length+ys.length≤140737488355328) (h2:Tot (f (xs++ys)) Q):Tot (G.bind (G.lift (app b xs ys)) f) Q:=Tot.apnd h.1 h.2 h2
theorem Tot.mkx {b:Nat} {z:α} {n:Int} {f:List α→G γ} (h:0≤n∧b*n.toNat≤281474976710656∧n.toNat≤281474976710656) (h2:Tot (f (List.replicate n.toNat z)) Q):Tot (G.bind (G.lift (mkS b z n)) f) Q:=Tot.mk h.1 h.2.1 h.2.2 h2
theorem bl_:((!true)=false)∧((!false)=true)∧(∀ b,(true && b)=b)∧(∀ b,(b && true)=b)∧(∀ b,(false && b)=false)∧(∀ b,(b && false)=false)∧(∀ b,(true || b)=true)∧(∀ b,(b || true)=true)∧(∀ b,(false || b)=b)∧(∀ b,(b || false)=b)∧(∀(α:Type) (a:α) (l:List α),(a :: l).length=l.length+1)∧(∀(α:Type) (l m:List α),(l++m).length=l.length+m.length)∧(∀(α:Type) (l:List α) (i:Nat) (a:α),(l.set i a).length=l.length)∧(∀(α:Type),([]:List α).length=0)∧(∀(α:Type) (n:Nat) (a:α),(List.replicate n a).length=n)∧(∀(α β:Type) (f:α→β) (l:List α),(l.map f).length=l.length)∧(∀ n:Nat,(n:Int).toNat=n):=by
 refine⟨rfl,rfl,?_,?_,?_,?_,?_,?_,?_,?_,?_,?_,?_,?_,?_,?_,?_⟩<;>intros<;>simp
theorem Tot.part {m:G α} {f:α→G γ} (R:α→Prop) (hm:Tot m R) (h:∀ a,R a→Tot (f a) Q):Tot (G.bind m f) Q := .bind (hm.mono h)
end
theorem z5g {α:Type} {x:α} {l:List α}:z25 (x :: l) 1 ((x :: l).length:Int)=some l:=by
 unfold z25
 rw[if_pos ⟨by omega,by omega,by simp,by simp⟩]
 simp
theorem z9k {α:Type} {xs ys:List α} (h:xs.length≤10000000):small7 xs ys=some ys:=if_pos h
end Go.Proofs.YtdllbdlnmjngcaaGreat

namespace Go.Proofs.YtdllbdlnmjngcaaGreat
open Go Go.RowKit L
set_option linter.unusedVariables false
set_option linter.unusedSimpArgs false
theorem Qk {α:Type} [Inhabited α] {l:List α} {k:Nat} (h:k<l.length) (x:α):x∈l.take (k+1)↔x∈l.take k∨x=at' l (k:Int):=by
 rw[List.take_succ_eq_append_getElem h,zgb h,List.mem_append];simp
theorem zbw {l:List Bool} {z:Int} {j:Nat} (h0:0≤z) (h1:z<l.length):onB (l.set z.toNat true) j↔(j:Int)=z∨onB l j:=by
 rw[z2n (by omega)]
 constructor
 ·rintro(rfl | h)
  ·left;omega
  ·exact .inr h
 ·rintro(h | h)
  ·left;omega
  ·exact .inr h
theorem z5d {l:List Bool} {z:Int} (h0:0≤z) (h1:z<l.length) (h:at' l z=false):zdi (l.set z.toNat true)+1=zdi l:=by
 refine zzi ?_
 obtain⟨k,rfl⟩:=Int.eq_ofNat_of_zero_le h0
 have hk:k<l.length:=by omega
 rw[zgb hk] at h
 simp[hk,h]
theorem zoz (n:Nat) (beg:List Int) (to:Int→G (List Int)) (E:Nat→Nat→Prop) (hn:n≤100000) (hbl:beg.length≤100000) (hb:∀ x∈beg,0≤x∧x<n)
  (hto:∀ i:Nat,i<n→Tot (to i) (fun l=>l.length≤1000000000∧(∀ x∈l,0≤x∧x<n)∧∀ j:Nat,(j:Int)∈l↔E i j)):Tot (z7 n beg to) (· = zuh n E fun i=>(i:Int)∈beg):=by
 unfold z7
 repeat (first | with_reducible (refine Tot.bp ?_) | with_reducible (refine Tot.bb ?_) | (refine Tot.ct ?_ ?_;focus (first | with_reducible rfl | (simp (disch:=omega) only [qv,qu,bl_];done))) | (refine Tot.cf ?_ ?_;focus (first | with_reducible rfl | (simp (disch:=omega) only [qv,qu,bl_];done))) | with_reducible (refine Tot.bc ?_) | ((first | refine Tot.rdx ?_ ?_ | refine Tot.apx ?_ ?_ | refine Tot.mkx ?_ ?_);focus (first | omega | (simp;done) | (simp;omega))))
 refine Tot.someB (z9k (by omega)) ?_
 refine Tot.part (fun r=>r.length=n∧∀ i:Nat,onB r i↔(i:Int)∈beg) ?_ ?_
 ·refine Tot.forC (fun s=>s.1) beg.length (fun k s=>s.1=(k:Int)∧s.2.length=n∧∀ i:Nat,onB s.2 i↔(i:Int)∈beg.take k) (fun k s h=>h.1) ?_ ?_ ⟨rfl,by simp,fun i=>by simp[z9y]⟩
  ·rintro k ⟨_,l⟩ hk ⟨rfl,h1,h2⟩
   simp only at h1 h2
   have hx:=hb _ (zdz (l:=beg) (z:=(k:Int)) (by omega) (by omega))
   repeat (first | with_reducible (refine Tot.bp ?_) | with_reducible (refine Tot.bb ?_) | (refine Tot.ct ?_ ?_;focus (first | with_reducible rfl | (simp (disch:=omega) only [qv,qu,bl_];done))) | (refine Tot.cf ?_ ?_;focus (first | with_reducible rfl | (simp (disch:=omega) only [qv,qu,bl_];done))) | with_reducible (refine Tot.bc ?_) | ((first | refine Tot.rdx ?_ ?_ | refine Tot.apx ?_ ?_ | refine Tot.mkx ?_ ?_);focus (first | omega | (simp;done) | (simp;omega))))
   refine Tot.pure ⟨za1 (by omega),by simp[h1],fun i=>?_⟩
   simp only
   rw[zbw hx.1 (by omega),h2,Qk hk]
   constructor<;>(rintro(h | h)<;>simp[h])
  ·rintro⟨_,l⟩ ⟨rfl,h1,h2⟩
   simp only at h1 h2
   repeat (first | with_reducible (refine Tot.bp ?_) | with_reducible (refine Tot.bb ?_) | (refine Tot.ct ?_ ?_;focus (first | with_reducible rfl | (simp (disch:=omega) only [qv,qu,bl_];done))) | (refine Tot.cf ?_ ?_;focus (first | with_reducible rfl | (simp (disch:=omega) only [qv,qu,bl_];done))) | with_reducible (refine Tot.bc ?_) | ((first | refine Tot.rdx ?_ ?_ | refine Tot.apx ?_ ?_ | refine Tot.mkx ?_ ?_);focus (first | omega | (simp;done) | (simp;omega))))
   refine Tot.pure ⟨h1,fun i=>?_⟩
   rw[h2,List.take_length]
 ·rintro m ⟨m1,m2⟩
  refine Tot.part (· = zuh n E fun i=>(i:Int)∈beg) ?_ (fun a ha=>Tot.pure ha)
  refine Tot.loop (fun s:List Bool×List Int=>s.1.length=n∧(∀ x∈s.2,0≤x∧x<n∧onB s.1 x.toNat)∧(∀ i,onB s.1 i→Rch E (fun i=>(i:Int)∈beg) i)∧(∀ i:Nat,(i:Int)∈beg→onB s.1 i)∧(∀ i j,onB s.1 i→E i j→onB s.1 j∨(i:Int)∈s.2)∧zdi s.1+s.2.length≤n+beg.length) (fun s:List Bool×List Int=>2*zdi s.1+s.2.length) ?_ ⟨m1,?_,fun i hi => .base ((m2 i).1 hi),fun i hi=>(m2 i).2 hi,fun i j hi _ => .inr ((m2 i).1 hi),?_⟩
  ·rintro⟨l,wait⟩ ⟨h1,h2,h3,h4,h5,h6⟩
   simp only at h1 h2 h3 h4 h5 h6
   cases wait with
   | nil=>
    repeat (first | with_reducible (refine Tot.bp ?_) | with_reducible (refine Tot.bb ?_) | (refine Tot.ct ?_ ?_;focus (first | with_reducible rfl | (simp (disch:=omega) only [qv,qu,bl_];done))) | (refine Tot.cf ?_ ?_;focus (first | with_reducible rfl | (simp (disch:=omega) only [qv,qu,bl_];done))) | with_reducible (refine Tot.bc ?_) | ((first | refine Tot.rdx ?_ ?_ | refine Tot.apx ?_ ?_ | refine Tot.mkx ?_ ?_);focus (first | omega | (simp;done) | (simp;omega))))
    refine Tot.pure (ja6 h1 h3 h4 fun i j hi he=>?_)
    rcases h5 i j hi he with h | h
    ·exact h
    ·simp at h
   | cons x rest=>
    have hx:=h2 x (by simp)
    obtain⟨q,rfl⟩:=Int.eq_ofNat_of_zero_le hx.1
    simp only[List.length_cons] at h6
    repeat (first | with_reducible (refine Tot.bp ?_) | with_reducible (refine Tot.bb ?_) | (refine Tot.ct ?_ ?_;focus (first | with_reducible rfl | (simp (disch:=omega) only [qv,qu,bl_];done))) | (refine Tot.cf ?_ ?_;focus (first | with_reducible rfl | (simp (disch:=omega) only [qv,qu,bl_];done))) | with_reducible (refine Tot.bc ?_) | ((first | refine Tot.rdx ?_ ?_ | refine Tot.apx ?_ ?_ | refine Tot.mkx ?_ ?_);focus (first | omega | (simp;done) | (simp;omega))))
    refine Tot.someB z5g ?_
    refine Tot.bind ((hto q (by omega)).mono fun nx hnx=>?_)
    obtain⟨n0,n1,n2⟩:=hnx
    refine Tot.part (fun(r:List Bool×List Int)=>r.1.length=n∧LeB l r.1∧(∀ y∈r.2,0≤y∧y<n∧onB r.1 y.toNat)∧(∀ i,onB r.1 i→Rch E (fun i=>(i:Int)∈beg) i)∧(∀ y∈nx,onB r.1 y.toNat)∧(∀ i,onB r.1 i→onB l i∨(i:Int)∈r.2)∧(∀ y∈rest,y∈r.2)∧zdi r.1+r.2.length=zdi l+rest.length∧zdi r.1≤zdi l) ?_ ?_
    ·refine Tot.forC (fun s=>s.1) nx.length (fun k (s:Int×List Bool×List Int)=>s.1=(k:Int)∧s.2.1.length=n∧LeB l s.2.1∧(∀ y∈s.2.2,0≤y∧y<n∧onB s.2.1 y.toNat)∧(∀ i,onB s.2.1 i→Rch E (fun i=>(i:Int)∈beg) i)∧(∀ y∈nx.take k,onB s.2.1 y.toNat)∧(∀ i,onB s.2.1 i→onB l i∨(i:Int)∈s.2.2)∧(∀ y∈rest,y∈s.2.2)∧zdi s.2.1+s.2.2.length=zdi l+rest.length∧zdi s.2.1≤zdi l) (fun k s h=>h.1) ?_ ?_ ⟨rfl,h1,LeB.refl _,fun y hy=>h2 y (by simp[hy]),h3,by simp,fun i hi => .inl hi,fun y hy=>hy,rfl,Nat.le_refl _⟩
     ·rintro k ⟨_,a,w⟩ hk ⟨rfl,k1,k2,k3,k4,k5,k6,k7,k8,k9⟩
      simp only at k1 k2 k3 k4 k5 k6 k7 k8 k9
      have hmem:=zdz (l:=nx) (z:=(k:Int)) (by omega) (by omega)
      have hy:=n1 _ hmem
      have ho:=z2f l
      repeat (first | with_reducible (refine Tot.bp ?_) | with_reducible (refine Tot.bb ?_) | (refine Tot.ct ?_ ?_;focus (first | with_reducible rfl | (simp (disch:=omega) only [qv,qu,bl_];done))) | (refine Tot.cf ?_ ?_;focus (first | with_reducible rfl | (simp (disch:=omega) only [qv,qu,bl_];done))) | with_reducible (refine Tot.bc ?_) | ((first | refine Tot.rdx ?_ ?_ | refine Tot.apx ?_ ?_ | refine Tot.mkx ?_ ?_);focus (first | omega | (simp;done) | (simp;omega))))
      refine Tot.cond (fun hb=>?_) fun hb=>?_
      ·simp only[Bool.not_eq_true'] at hb
       repeat (first | with_reducible (refine Tot.bp ?_) | with_reducible (refine Tot.bb ?_) | (refine Tot.ct ?_ ?_;focus (first | with_reducible rfl | (simp (disch:=omega) only [qv,qu,bl_];done))) | (refine Tot.cf ?_ ?_;focus (first | with_reducible rfl | (simp (disch:=omega) only [qv,qu,bl_];done))) | with_reducible (refine Tot.bc ?_) | ((first | refine Tot.rdx ?_ ?_ | refine Tot.apx ?_ ?_ | refine Tot.mkx ?_ ?_);focus (first | omega | (simp;done) | (simp;omega))))
       have hof:=z5d hy.1 (by omega) hb
       obtain⟨j,hj⟩:=Int.eq_ofNat_of_zero_le hy.1
       refine Tot.pure ⟨za1 (by omega),by simp[k1],k2.trans (LeB.set (by omega)),?_,?_,?_,?_,?_,?_,?_⟩
       all_goals simp only
       ·intro y hy2
        rcases List.mem_append.1 hy2 with h | h
        ·have:=k3 y h
         exact⟨this.1,this.2.1,(zbw hy.1 (by omega)).2 (.inr this.2.2)⟩
        ·simp at h;subst h
         exact⟨hy.1,hy.2,(zbw hy.1 (by omega)).2 (.inl (by omega))⟩
       ·intro i hi
        rcases(zbw hy.1 (by omega)).1 hi with h | h
        ·exact .step (h3 q (by simpa using hx.2.2)) ((n2 i).1 (h▸hmem))
        ·exact k4 i h
       ·intro y hy2
        refine(zbw hy.1 (by omega)).2 ?_
        rcases(Qk hk y).1 hy2 with h | h
        ·exact .inr (k5 y h)
        ·left;subst h;omega
       ·intro i hi
        rcases(zbw hy.1 (by omega)).1 hi with h | h
        ·right;simp[h]
        ·rcases k6 i h with h | h
         ·exact .inl h
         ·right;simp[h]
       ·intro y hy2;simp[k7 y hy2]
       ·simp;omega
       ·omega
      ·simp only[Bool.not_eq_false'] at hb
       refine Tot.pure ⟨za1 (by omega),k1,k2,k3,k4,?_,k6,k7,k8,k9⟩
       intro y hy2
       rcases(Qk hk y).1 hy2 with h | h
       ·exact k5 y h
       ·subst h;exact(z55 hy.1).1 hb
     ·rintro⟨_,a,w⟩ ⟨rfl,k1,k2,k3,k4,k5,k6,k7,k8,k9⟩
      repeat (first | with_reducible (refine Tot.bp ?_) | with_reducible (refine Tot.bb ?_) | (refine Tot.ct ?_ ?_;focus (first | with_reducible rfl | (simp (disch:=omega) only [qv,qu,bl_];done))) | (refine Tot.cf ?_ ?_;focus (first | with_reducible rfl | (simp (disch:=omega) only [qv,qu,bl_];done))) | with_reducible (refine Tot.bc ?_) | ((first | refine Tot.rdx ?_ ?_ | refine Tot.apx ?_ ?_ | refine Tot.mkx ?_ ?_);focus (first | omega | (simp;done) | (simp;omega))))
      rw[List.take_length] at k5
      exact Tot.pure ⟨k1,k2,k3,k4,k5,k6,k7,k8,k9⟩
    ·rintro⟨a,w⟩ ⟨k1,k2,k3,k4,k5,k6,k7,k8,k9⟩
     simp only at k1 k2 k3 k4 k5 k6 k7 k8 k9
     refine Tot.pure ⟨⟨k1,k3,k4,fun i hi=>k2.2 i (h4 i hi),?_,?_⟩,?_⟩
     ·intro i j hi he
      simp only at hi ⊢
      rcases k6 i hi with h | h
      ·rcases h5 i j h he with h | h
       ·exact .inl (k2.2 j h)
       ·rcases List.mem_cons.1 h with h | h
        ·left
         have:i=q:=by omega
         subst this
         have:=k5 _ ((n2 j).2 he)
         simpa using this
        ·exact .inr (k7 _ h)
      ·exact .inr h
     ·simp only;omega
     ·simp only[List.length_cons];omega
  ·intro x hx
   have:=hb x hx
   obtain⟨q,rfl⟩:=Int.eq_ofNat_of_zero_le this.1
   exact⟨this.1,this.2,by simpa using (m2 q).2 hx⟩
  ·have:=z2f m
   simp only;omega
end Go.Proofs.YtdllbdlnmjngcaaGreat

namespace Go.Proofs.YtdllbdlnmjngcaaGreat.T
open Go Go.RowKit L
set_option linter.unusedVariables false
structure Fi (ι:Type) where
 ev:(ι→Prop)→Prop
 mono:∀ {P Q:ι→Prop},(∀ i,P i→Q i)→ev P→ev Q
 and:∀ {P Q:ι→Prop},ev P→ev Q→ev fun i=>P i∧Q i
 top:ev fun _=>True
def Fi.nat:Fi Nat where
 ev P:=∃ N,∀ n,N≤n→P n
 mono:=fun h ⟨N,hN⟩=>⟨N,fun n hn=>h n (hN n hn)⟩
 and:=fun⟨N,hN⟩ ⟨M,hM⟩=>⟨max N M,fun n hn=>⟨hN n (by omega),hM n (by omega)⟩⟩
 top:=⟨0,fun _ _=>trivial⟩
def Fi.mul {ι:Type} (D:Fi ι):Fi (ι×Nat) where
 ev P:=∃ N,D.ev fun i=>∀ n,N≤n→P (i,n)
 mono:=fun h ⟨N,hN⟩=>⟨N,D.mono (fun i hi n hn=>h (i,n) (hi n hn)) hN⟩
 and:=fun⟨N,hN⟩ ⟨M,hM⟩=>⟨max N M,D.mono (fun i hi n hn=>⟨hi.1 n (by omega),hi.2 n (by omega)⟩) (D.and hN hM)⟩
 top:=⟨0,D.mono (fun _ _ _ _=>trivial) D.top⟩
section
variable {ι α β σ : Type} {D : Fi ι}
def Big (D:Fi ι) (φ:ι→Nat):Prop:=∀ N,D.ev fun i=>N≤φ i
theorem Big.nat:Big Fi.nat fun n=>n:=fun N=>⟨N,fun n h=>h⟩
theorem Big.fst {φ:ι→Nat} (h:Big D φ):Big D.mul fun p=>φ p.1:=fun N=>⟨0,D.mono (fun i hi n _=>hi) (h N)⟩
def Tt (D:Fi ι) (f:ι→Option α) (Q:α→Prop):Prop:=∃ r,D.ev (fun i=>f i=some r)∧Q r
abbrev Tn (f:Nat→Option α) (Q:α→Prop):Prop:=Tt Fi.nat f Q
theorem Tt.mono {f:ι→Option α} {Q R:α→Prop} (h:Tt D f Q) (hq:∀ r,Q r→R r):Tt D f R:=by
 obtain⟨r,h1,h2⟩:=h
 exact⟨r,h1,hq r h2⟩
theorem Tt.pure {a:α} {Q:α→Prop} (h:Q a):Tt D (fun _=>some a) Q:=⟨a,D.mono (fun _ _=>rfl) D.top,h⟩
theorem Tt.bind {f:ι→Option α} {k:ι→α→Option β} {R:α→Prop} {Q:β→Prop} (h:Tt D f R) (hk:∀ x,R x→Tt D (fun i=>k i x) Q):Tt D (fun i=>ja (f i) (k i)) Q:=by
 obtain⟨x,h1,h2⟩:=h
 obtain⟨r,h3,h4⟩:=hk x h2
 exact⟨r,D.mono (fun i hi=>by show ja (f i) (k i)=some r;rw[hi.1];exact hi.2) (D.and h1 h3),h4⟩
theorem Tt.bs {o:Option α} {k:ι→α→Option β} {Q:β→Prop} (x:α) (ho:o=some x) (hk:Tt D (fun i=>k i x) Q):Tt D (fun i=>ja o (k i)) Q:=
 Tt.bind (R:=fun y=>y=x) (by rw[ho];exact Tt.pure rfl) fun y hy=>by subst hy;exact hk
theorem Tt.b1 {x:α} {k:ι→α→Option β} {Q:β→Prop} (hk:Tt D (fun i=>k i x) Q):Tt D (fun i=>ja (some x) (k i)) Q:=Tt.bs x rfl hk
theorem Tt.tt {c:Bool} {x y:ι→Option β} {Q:β→Prop} (hc:c=true) (h:Tt D x Q):Tt D (fun i=>ifB c (x i) (y i)) Q:=by subst hc;exact h
theorem Tt.ff {c:Bool} {x y:ι→Option β} {Q:β→Prop} (hc:c=false) (h:Tt D y Q):Tt D (fun i=>ifB c (x i) (y i)) Q:=by subst hc;exact h
theorem Tt.ite {c:Bool} {x y:ι→Option β} {Q:β→Prop} (h1:c=true→Tt D x Q) (h2:c=false→Tt D y Q):Tt D (fun i=>ifB c (x i) (y i)) Q:=by
 cases c
 ·exact h2 rfl
 ·exact h1 rfl
def Nx (D:Fi ι) (Q:β→Prop) (R:σ→Prop) (nx:ι→σ→Option β):Prop:=∀ s,R s→Tt D (fun i=>nx i s) Q
theorem Nx.use {Q:β→Prop} {R:σ→Prop} {nx:ι→σ→Option β} {s:σ} (h:Nx D Q R nx) (hs:R s):Tt D (fun i=>nx i s) Q:=h s hs
theorem Tt.fst {f:ι→Option β} {Q:β→Prop} (h:Tt D f Q):Tt D.mul (fun p=>f p.1) Q:=by
 obtain⟨r,h1,h2⟩:=h
 exact⟨r,⟨0,D.mono (fun i hi n _=>hi) h1⟩,h2⟩
theorem Nx.fst {Q:β→Prop} {R:σ→Prop} {nx:ι→σ→Option β} (h:Nx D Q R nx):Nx D.mul Q R (fun p s=>nx p.1 s):=fun s hs=>Tt.fst (h s hs)
theorem Tt.J {rest:ι→σ→Option β} {A:ι→(σ→Option β)→Option β} {Q:β→Prop} (R:σ→Prop) (h1:∀ nx:ι→σ→Option β,Nx D Q R nx→Tt D (fun i=>A i (nx i)) Q) (h2:∀ s,R s→Tt D (fun i=>rest i s) Q):Tt D (fun i=>T.J (rest i) (A i)) Q:=h1 rest h2
theorem Tt.call {p:Nat→Option α} {φ:ι→Nat} {Q:α→Prop} (h:Tn p Q) (hφ:Big D φ):Tt D (fun i=>p (φ i)) Q:=by
 obtain⟨r,⟨N,h1⟩,h2⟩:=h
 exact⟨r,D.mono (fun i hi=>h1 _ hi) (hφ N),h2⟩
theorem Tt.loop {B:ι→σ→(σ→Option β)→Option β} {φ:ι→Nat} {Q:β→Prop} {s:σ} (I:Nat→σ→Prop) (m:Nat) (hφ:Big D φ) (h0:I m s)
  (step:∀ m s,I m s→∀ nx:ι×Nat→σ→Option β,(∀ m' s',m'<m→I m' s'→Tt D.mul (fun p=>nx p s') Q)→Tt D.mul (fun p=>B p.1 s (nx p)) Q):Tt D (fun i=>jt (B i) (φ i) s) Q:=by
 have key:∀ m s,I m s→Tt D.mul (fun p=>jt (B p.1) p.2 s) Q:=by
  intro m
  induction m using Nat.strongRecOn with
  | ind m ih=>
   intro s hs
   obtain⟨r,⟨N,h1⟩,h2⟩:=step m s hs (fun p=>jt (B p.1) p.2) fun m' s' hm hs'=>ih m' hm s' hs'
   refine⟨r,⟨N+1,D.mono (fun i hi n hn=>?_) h1⟩,h2⟩
   match n,hn with
   | 0,hn=>omega
   | n+1,hn=>exact hi n (by omega)
 obtain⟨r,⟨N,h1⟩,h2⟩:=key m s h0
 exact⟨r,D.mono (fun i hi=>hi.1 _ hi.2) (D.and h1 (hφ N)),h2⟩
end
theorem zcb {α:Type} {l:List α} {z:Int} {x:α} (h0:0≤z) (h:l[z.toNat]? = some x):atL l z=some x:=by
 unfold atL;rw[decide_eq_true h0];exact h
theorem atN {α:Type} {l:List α} {k:Nat} (h:k<l.length):atL l (k:Int)=some l[k]:=zcb (by omega) (by simp[h])
end Go.Proofs.YtdllbdlnmjngcaaGreat.T

namespace Go.Proofs.YtdllbdlnmjngcaaGreat.T
open Go Go.RowKit L
set_option linter.unusedVariables false
structure GLen (g:jb):Prop where
 t:g.1.length≤1000000
 r:g.2.1.length≤1000000
 p:g.2.2.1.length≤1000000
theorem wI {z:Int} (h1 : -9223372036854775808≤z) (h2:z≤9223372036854775807):T.w64 z=z:=w64_of h1 h2
structure z5w (g:jb):Prop where
 t:g.1.length≤9223372036854775807
 r:g.2.1.length≤9223372036854775807
 p:g.2.2.1.length≤9223372036854775807
theorem jbg (g:jb) (hg:z5w g):Tn (fun nn=>za9 nn g) (fun b=>b=true→g.1.length≤70∧g.2.1.length≤70∧g.2.2.1.length≤260):=by
 have m1:=hg.t
 have m2:=hg.r
 have m3:=hg.p
 unfold za9
 refine Tt.loop (fun m s=>∃(k:Nat) (a:Int),k≤g.1.length∧m=g.1.length-k∧s=(a,(k:Int),g)) g.1.length Big.nat ⟨0,_,by omega,by omega,rfl⟩ fun m s ⟨k,a,hk,hm,hs⟩ nx hnx=>?_
 subst hs
 dsimp only
 refine Tt.ite (fun c=>?_) (fun c=>?_)
 ·have c:=of_decide_eq_true c
  have hlt:k<g.1.length:=by omega
  refine Tt.bs _ (atN hlt) (Tt.bs _ (atN hlt) (Tt.b1 (Tt.b1 ?_)))
  rw[wI (z:=(k:Int)+1) (by omega) (by omega)]
  exact hnx (g.1.length-(k+1)) _ (by omega) ⟨k+1,_,by omega,rfl,rfl⟩
 refine Tt.loop (fun m s=>∃(k:Nat) (a:Int),k≤g.2.1.length∧m=g.2.1.length-k∧s=(a,(k:Int),g)) g.2.1.length Big.nat.fst ⟨0,_,by omega,by omega,rfl⟩ fun m s ⟨k,a,hk,hm,hs⟩ nx hnx=>?_
 subst hs
 dsimp only
 refine Tt.ite (fun c=>?_) (fun c=>?_)
 ·have c:=of_decide_eq_true c
  have hlt:k<g.2.1.length:=by omega
  refine Tt.bs _ (atN hlt) (Tt.b1 (Tt.b1 ?_))
  rw[wI (z:=(k:Int)+1) (by omega) (by omega)]
  exact hnx (g.2.1.length-(k+1)) _ (by omega) ⟨k+1,_,by omega,rfl,rfl⟩
 refine Tt.loop (fun m s=>∃(k:Nat) (a:Int),k≤g.2.2.1.length∧m=g.2.2.1.length-k∧s=(a,(k:Int),g)) g.2.2.1.length Big.nat.fst.fst ⟨0,_,by omega,by omega,rfl⟩ fun m s ⟨k,a,hk,hm,hs⟩ nx hnx=>?_
 subst hs
 dsimp only
 refine Tt.ite (fun c=>?_) (fun c=>?_)
 ·have c:=of_decide_eq_true c
  have hlt:k<g.2.2.1.length:=by omega
  refine Tt.bs _ (atN hlt) (Tt.b1 (Tt.b1 ?_))
  rw[wI (z:=(k:Int)+1) (by omega) (by omega)]
  exact hnx (g.2.2.1.length-(k+1)) _ (by omega) ⟨k+1,_,by omega,rfl,rfl⟩
 refine Tt.J (fun b=>b=true→g.1.length≤70∧g.2.1.length≤70∧g.2.2.1.length≤260) (fun nx hnx=>?_) fun s hs=>Tt.pure hs
 refine Tt.b1 (Tt.ite (fun c1=>Tt.ite (fun c2=>Tt.ite (fun c3=>hnx _ fun _=>?_) fun _=>hnx _ fun h=>by cases h) fun _=>hnx _ fun h=>by cases h) fun _=>hnx _ fun h=>by cases h)
 have c1:=of_decide_eq_true c1
 have c2:=of_decide_eq_true c2
 have c3:=of_decide_eq_true c3
 exact⟨by omega,by omega,by omega⟩
structure GSm (g:jb):Prop where
 few:g.1.length≤70∧g.2.1.length≤70∧g.2.2.1.length≤260
 r:g.2.1.length≤12
 t:g.1.length≤12
 p:g.2.2.1.length≤30
theorem zx6 (g:jb) (hg:z5w g):Tn (fun nn=>Yk nn g) (fun b=>b=true→GSm g):=by
 unfold Yk
 refine Tt.J (fun b=>b=true→GSm g) (fun nx hnx=>?_) fun s hs=>Tt.pure hs
 refine Tt.bind (Tt.call (jbg g hg) Big.nat) fun b hb=>?_
 refine Tt.ite (fun c1=>Tt.ite (fun c2=>Tt.ite (fun c3=>hnx _ fun c4=>?_) fun _=>hnx _ fun h=>by cases h) fun _=>hnx _ fun h=>by cases h) fun _=>hnx _ fun h=>by cases h
 have c2:=of_decide_eq_true c2
 have c3:=of_decide_eq_true c3
 have c4:=of_decide_eq_true c4
 exact⟨hb c1,by omega,by omega,by omega⟩
def zar (l:List qh):Nat:=(l.map fun t=>min t.2.1.length 1000).sum
theorem zsh {l:List qh} {k:Nat} (h:k<l.length):zar (l.take (k+1))=zar (l.take k)+min (l[k]).2.1.length 1000:=by
 unfold zar
 rw[List.take_succ_eq_append_getElem h]
 simp only[List.map_append,List.sum_append,List.map_cons,List.map_nil,List.sum_cons,List.sum_nil,Nat.add_zero]
theorem zw4:∀ {l:List qh} {t:qh},t∈l→min t.2.1.length 1000≤zar l
 | x :: l,t,h=>by
  have e:zar (x :: l)=min x.2.1.length 1000+zar l:=by unfold zar;rw[List.map_cons,List.sum_cons]
  rcases List.mem_cons.1 h with rfl | h
  ·omega
  ·have:=zw4 h;omega
structure GBu (g:jb):Prop extends GSm g where
 n:zar g.1≤120
 s:g.2.2.2.2.1≤200
theorem z3q (g:jb) (hg:z5w g):Tn (fun nn=>Ym nn g) (fun b=>b=true→GBu g):=by
 have m1:=hg.t
 unfold Ym
 refine Tt.loop (fun m s=>∃(k:Nat) (a:Int),k≤g.1.length∧m=g.1.length-k∧s=(a,(k:Int),g)∧(g.1.length≤1000→a=(zar (g.1.take k):Int)∧zar (g.1.take k)≤1000*k)) g.1.length Big.nat ⟨0,_,by omega,by omega,rfl,fun _=>by simp[zar]⟩ fun m s ⟨k,a,hk,hm,hs,hi⟩ nx hnx=>?_
 subst hs
 dsimp only
 refine Tt.ite (fun c=>?_) (fun c=>?_)
 ·have c:=of_decide_eq_true c
  have hlt:k<g.1.length:=by omega
  refine Tt.bs _ (atN hlt) (Tt.b1 (Tt.b1 ?_))
  rw[wI (z:=(k:Int)+1) (by omega) (by omega)]
  refine hnx (g.1.length-(k+1)) _ (by omega) ⟨k+1,_,by omega,rfl,rfl,fun h=>?_⟩
  obtain⟨e1,e2⟩:=hi h
  have es:=zsh hlt
  rw[wI (by omega) (by omega)]
  omega
 ·have c:=of_decide_eq_false c
  have hke:k=g.1.length:=by omega
  rw[hke,List.take_length] at hi
  refine Tt.J (fun b=>b=true→GBu g) (fun nx hnx=>?_) fun s hs=>Tt.pure hs
  refine Tt.bind (Tt.call (zx6 g hg) Big.nat.fst) fun b hb=>?_
  refine Tt.ite (fun c1=>Tt.ite (fun c2=>hnx _ fun c3=>?_) fun _=>hnx _ fun h=>by cases h) fun _=>hnx _ fun h=>by cases h
  have c2:=of_decide_eq_true c2
  have c3:=of_decide_eq_true c3
  have hs:=hb c1
  have:=hs.t
  have:=hi (by omega)
  exact⟨hs,by omega,c3⟩
end Go.Proofs.YtdllbdlnmjngcaaGreat.T

namespace Go.Proofs.YtdllbdlnmjngcaaGreat.T
open Go Go.RowKit L
set_option linter.unusedVariables false
theorem z7p (c:Int):Tn (fun nn=>zbb nn c) (fun _=>True):=by
 unfold zbb
 (repeat (first | with_reducible exact Tt.pure trivial | (with_reducible refine Nx.use (by assumption) ?_;exact trivial) | with_reducible refine Tt.b1 ?_ | with_reducible refine Tt.J (fun _=>True) (fun _ _=>?_) (fun _ _=>?_) | with_reducible refine Tt.ite (fun _=>?_) (fun _=>?_)))
theorem z1f {l:List UInt8} {p:Int}:zdr l p=true↔p.toNat<l.length:=by
 unfold zdr;simp[Nat.blt_eq]
def zfr (g:jb) (x:jf):Prop:=0≤x.2.1∧x.2.1<(if x.1=true then (g.2.1.length:Int) else g.1.length)
theorem z6a (g:jb) (d:jk) (x:jf):Tn (fun nn=>y4 nn (some (g,d,())) x) (fun e=>e=0→zfr g x):=by
 unfold y4
 refine Tt.b1 ?_
 refine Tt.J (fun s=>s=(some (g,d,()),(if x.1=true then (g.2.1.length:Int) else g.1.length),x)) (fun nx hnx=>?_) (fun s hs=>?_)
 ·refine Tt.ite (fun c=>Tt.b1 (hnx _ ?_)) (fun c=>hnx _ ?_)
  ·simp[c]
  ·simp[c]
 ·subst hs
  dsimp only
  refine Tt.J (fun s=>s.1=some (g,d,())∧s.2.2=x∧(s.2.1=false→zfr g x)) (fun nx hnx=>?_) (fun s hs=>?_)
  ·refine Tt.b1 (Tt.ite (fun c=>hnx _ ⟨rfl,rfl,fun h=>by cases h⟩) (fun c=>hnx _ ⟨rfl,rfl,fun h=>?_⟩))
   have c:=of_decide_eq_false c
   have h:=of_decide_eq_false h
   exact⟨by omega,by unfold zfr at *;omega⟩
  ·obtain⟨s1,s2,s3⟩:=s
   obtain⟨h1,h2,h3⟩:=hs
   simp only at h1 h2 h3
   subst h1;subst h2
   dsimp only
   refine Tt.ite (fun c=>Tt.pure (fun h=>by cases h)) (fun c=>?_)
   have hI:=h3 c
   refine Tt.J (fun s=>True) (fun nx hnx=>?_) (fun s hs=>?_)
   ·refine Tt.b1 (Tt.ite (fun c2=>Tt.b1 ?_) (fun c2=>hnx _ trivial))
    have c2:s3.1=false:=by simpa using c2
    obtain⟨k1,k2⟩:=hI
    rw[c2] at k2
    simp only[Bool.false_eq_true,if_false] at k2
    have hl:s3.2.1.toNat<g.1.length:=by omega
    refine Tt.bs _ (zcb k1 (List.getElem?_eq_getElem hl)) (hnx _ trivial)
   ·refine Tt.ite (fun _=>Tt.pure (fun h=>by cases h)) (fun _=>?_)
    refine Tt.J (fun s=>True) (fun nx hnx=>?_) (fun s hs=>?_)
    ·(repeat (first | with_reducible exact Tt.pure trivial | (with_reducible refine Nx.use (by assumption) ?_;exact trivial) | with_reducible refine Tt.b1 ?_ | with_reducible refine Tt.J (fun _=>True) (fun _ _=>?_) (fun _ _=>?_) | with_reducible refine Tt.ite (fun _=>?_) (fun _=>?_)))
    ·exact Tt.ite (fun _=>Tt.pure (fun h=>by cases h)) (fun _=>Tt.pure (fun _=>hI))
theorem zya (l:List UInt8):Tn (fun nn=>Yw nn l) (fun _=>True):=by
 unfold Yw
 refine Tt.loop (fun m s=>s.1=l∧s.2.1=l∧m=l.length-s.2.2.1.toNat) l.length Big.nat ⟨rfl,rfl,by simp⟩ fun m s ⟨h1,h2,h3⟩ nx hnx=>?_
 obtain⟨a,b,p,u⟩:=s
 simp only at h1 h2 h3
 subst h1;subst h2
 dsimp only
 refine Tt.ite (fun c=>?_) (fun c=>?_)
 ·have c:=z1f.1 c
  refine Tt.bind (Tt.call (z7p _) Big.nat.fst) fun r _=>?_
  refine Tt.J (fun s=>s.1=b∧s.2.2=(b,zbf b p,())) (fun nx hnx=>?_) (fun s hs=>?_)
  ·refine Tt.b1 (Tt.ite (fun _=>hnx _ ⟨rfl,rfl⟩) (fun _=>Tt.b1 (Tt.ite (fun _=>hnx _ ⟨rfl,rfl⟩) (fun _=>hnx _ ⟨rfl,rfl⟩))))
  ·refine Tt.ite (fun _=>Tt.pure trivial) (fun _=>?_)
   have hw:=Lib.decode_width_pos ⟨⟨b⟩⟩ p.toNat (by simpa [ByteArray.size] using c)
   obtain⟨e1,e2⟩:=hs
   refine hnx (b.length-(zbf b p).toNat) _ ?_ ⟨e1,by rw[e2],by rw[e2]⟩
   have:(zbf b p).toNat=p.toNat+(Utf8.decode ⟨⟨b⟩⟩ p.toNat).2:=by unfold zbf;exact Int.toNat_natCast _
   omega
 ·(repeat (first | with_reducible exact Tt.pure trivial | (with_reducible refine Nx.use (by assumption) ?_;exact trivial) | with_reducible refine Tt.b1 ?_ | with_reducible refine Tt.J (fun _=>True) (fun _ _=>?_) (fun _ _=>?_) | with_reducible refine Tt.ite (fun _=>?_) (fun _=>?_)))
theorem z1s (l:List (List UInt8)) (x:List UInt8) (hl:l.length≤1000000):Tn (fun nn=>qt nn l x) (fun _=>True):=by
 unfold qt
 refine Tt.loop (fun m s=>∃ k:Nat,k≤l.length∧m=l.length-k∧s=(l,x,(l.length:Int),(k:Int))) l.length Big.nat ⟨0,by omega,by omega,rfl⟩ fun m s ⟨k,hk,hm,hs⟩ nx hnx=>?_
 subst hs
 dsimp only
 refine Tt.ite (fun c=>?_) (fun c=>Tt.pure trivial)
 have c:=of_decide_eq_true c
 have hlt:k<l.length:=by omega
 refine Tt.bs _ (atN hlt) (Tt.ite (fun _=>Tt.pure trivial) (fun _=>Tt.b1 ?_))
 rw[wI (by omega) (by omega)]
 exact hnx (l.length-(k+1)) _ (by omega) ⟨k+1,by omega,rfl,by simp⟩
theorem zzg (l:List (List UInt8)) (x:List UInt8) (hl:l.length≤1000000):Tn (fun nn=>Yz nn l x) (fun _=>True):=by
 unfold Yz
 exact Tt.bind (Tt.call (z1s l x hl) Big.nat) fun _ _=>Tt.pure trivial
theorem V7 {α:Type} {b:Nat} {l r:List α} (h1:l.length+r.length≤2000000) (h2:b≤1000):apO b l r=some (l++r):=by
 unfold apO
 have e1:decide (l.length+r.length≤maxLen)=true:=decide_eq_true (by simp only[maxLen];omega)
 have e2:decide ((l.length+r.length)*b≤140737488355328)=true:=decide_eq_true (by
  have:=Nat.mul_le_mul h1 h2
  omega)
 rw[e1,e2];rfl
theorem zsd (l:List qh) (hl:l.length≤1000000):Tn (fun nn=>J4 nn l) (fun r=>r.length=l.length):=by
 unfold J4
 refine Tt.loop (fun m s=>∃(k:Nat) (r:List (List UInt8)),k≤l.length∧m=l.length-k∧r.length=k∧s=(l,(l.length:Int),(k:Int),r)) l.length Big.nat ⟨0,[],by omega,by omega,rfl,rfl⟩ fun m s ⟨k,r,hk,hm,hr,hs⟩ nx hnx=>?_
 subst hs
 dsimp only
 refine Tt.ite (fun c=>?_) (fun c=>Tt.pure ?_)
 ·have c:=of_decide_eq_true c
  have hlt:k<l.length:=by omega
  refine Tt.bs _ (atN hlt) (Tt.bs _ (V7 (by simp;omega) (by omega)) (Tt.b1 ?_))
  rw[wI (by omega) (by omega)]
  exact hnx (l.length-(k+1)) _ (by omega) ⟨k+1,r++[l[k].1],by omega,rfl,by simp[hr],rfl⟩
 ·have c:=of_decide_eq_false c
  omega
theorem Of_tot (g:jb) (hg:GLen g) (r:Int):Tn (fun nn=>zbs nn g r) (fun l=>l.length≤g.2.2.1.length∧∀ i∈l,∃(k:Nat) (p:jh),i=(k:Int)∧g.2.2.1[k]? = some p∧p.1=r):=by
 have hp:=hg.p
 unfold zbs
 refine Tt.loop (fun m s=>∃(k:Nat) (l:List Int),k≤g.2.2.1.length∧m=g.2.2.1.length-k∧l.length≤k∧(∀ i∈l,∃(k:Nat) (p:jh),i=(k:Int)∧g.2.2.1[k]? = some p∧p.1=r)∧s=(r,g.2.2.1,(g.2.2.1.length:Int),(k:Int),l)) g.2.2.1.length Big.nat ⟨0,[],by omega,by omega,by simp,by simp,rfl⟩ fun m s ⟨k,l,hk,hm,hl,hi,hs⟩ nx hnx=>?_
 subst hs
 dsimp only
 refine Tt.ite (fun c=>?_) (fun c=>Tt.pure ⟨by omega,hi⟩)
 have c:=of_decide_eq_true c
 have hlt:k<g.2.2.1.length:=by omega
 refine Tt.J (fun s=>∃ l:List Int,l.length≤k+1∧(∀ i∈l,∃(k:Nat) (p:jh),i=(k:Int)∧g.2.2.1[k]? = some p∧p.1=r)∧s=(r,g.2.2.1,(g.2.2.1.length:Int),(k:Int),l)) (fun ny hny=>?_) (fun s ⟨l',h1,h2,hs⟩=>?_)
 ·refine Tt.bs _ (atN hlt) (Tt.ite (fun c2=>Tt.bs _ (V7 (by simp;omega) (by omega)) (hny _ ⟨_,by simp;omega,fun i h=>?_,rfl⟩)) (fun _=>hny _ ⟨l,by omega,hi,rfl⟩))
  rcases List.mem_append.1 h with h | h
  ·exact hi i h
  ·simp at h
   exact⟨k,_,h,List.getElem?_eq_getElem hlt,of_decide_eq_true c2⟩
 ·subst hs
  dsimp only
  refine Tt.b1 ?_
  rw[wI (by omega) (by omega)]
  exact hnx (g.2.2.1.length-(k+1)) _ (by omega) ⟨k+1,l',by omega,rfl,h1,h2,by simp⟩
end Go.Proofs.YtdllbdlnmjngcaaGreat.T

namespace Go.Proofs.YtdllbdlnmjngcaaGreat.T
open Go Go.RowKit L
set_option linter.unusedVariables false
set_option linter.unusedSimpArgs false
def arK (k:Int):Option Nat:=if k=3∨k=4 then some 2 else if k=5∨k=6∨k=7 then some 1 else if k=1∨k=2 then some 0 else none
theorem w01:T.w64 1=1:=wI (by omega) (by omega)
theorem w11:T.w64 2=2:=wI (by omega) (by omega)
theorem ja1 (nn:Nat) (x:jj):zgi nn x=some (match arK x.1 with | some n=>((n:Int),true,()) | none=>(0,false,())):=by
 unfold zgi arK
 by_cases h3:x.1=3
 ·simp[T.J,ja,ifB,h3,w01,w11]
 by_cases h4:x.1=4
 ·simp[T.J,ja,ifB,h4,w01,w11]
 by_cases h5:x.1=5
 ·simp[T.J,ja,ifB,h5,w01]
 by_cases h6:x.1=6
 ·simp[T.J,ja,ifB,h6,w01]
 by_cases h7:x.1=7
 ·simp[T.J,ja,ifB,h7,w01]
 by_cases h1:x.1=1
 ·simp[T.J,ja,ifB,h1]
 by_cases h2:x.1=2
 ·simp[T.J,ja,ifB,h2]
 ·simp[T.J,ja,ifB,h1,h2,h3,h4,h5,h6,h7]
theorem z9b (x:jj):Tn (fun nn=>zgi nn x) (fun r=>r=(match arK x.1 with | some n=>((n:Int),true,()) | none=>(0,false,()))):=⟨_,⟨0,fun nn _=>ja1 nn x⟩,rfl⟩
def zdk:List jj→Nat→Option Nat
 | [],d=>some d
 | x :: l,d=>match arK x.1 with
  | none=>none
  | some n=>if n≤d then zdk l (d-n+1) else none
theorem zbd:∀(l m:List jj) (d:Nat),zdk (l++m) d=(zdk l d).bind (zdk m)
 | [],m,d=>rfl
 | x :: l,m,d=>by
  simp only[List.cons_append,zdk]
  cases arK x.1 with
  | none=>rfl
  | some n=>
   simp only
   split
   ·exact zbd l m _
   ·rfl
theorem z6e (l:List jj) (hl:l.length≤1000000):Tn (fun nn=>zel nn l) (fun r=>(r.2.2.1=0→∃ d:Nat,zdk l 0=some d∧r.1=d∧l.length≤512)):=by
 unfold zel
 refine Tt.ite (fun c=>Tt.pure (fun h=>by cases h)) (fun c=>?_)
 have c:=of_decide_eq_false c
 have hl5:l.length≤512:=by omega
 refine Tt.loop (fun m s=>∃(k d:Nat) (x:Int),k≤l.length∧m=l.length-k∧zdk (l.take k) 0=some d∧d≤k∧s=((d:Int),x,l,(l.length:Int),(k:Int))) l.length Big.nat ⟨0,0,0,by omega,by omega,rfl,by omega,rfl⟩ fun m s ⟨k,d,mx,hk,hm,hd,hdk,hs⟩ nx hnx=>?_
 subst hs
 dsimp only
 refine Tt.ite (fun c=>?_) (fun c=>Tt.pure (fun _=>?_))
 ·have c:=of_decide_eq_true c
  have hlt:k<l.length:=by omega
  refine Tt.bs _ (atN hlt) (Tt.bind (Tt.call (z9b _) Big.nat.fst) fun r4 hr4=>?_)
  subst hr4
  have htk:zdk (l.take (k+1)) 0=match arK (l[k]).1 with | none=>none | some n=>if n≤d then some (d-n+1) else none:=by
   rw[List.take_succ_eq_append_getElem hlt,zbd,hd]
   simp only[Option.bind_some,zdk]
  cases har:arK (l[k]).1 with
  | none=>
   dsimp only
   refine Tt.J (fun s=>s.2.2.2.2.2.2=true) (fun ny hny=>?_) (fun s hs=>?_)
   ·exact Tt.b1 (Tt.tt rfl (hny _ rfl))
   ·exact Tt.tt hs (Tt.pure (fun h=>by cases h))
  | some n=>
   rw[har] at htk
   dsimp only at htk ⊢
   refine Tt.J (fun s=>∃ b,s=((d:Int),mx,(n:Int),l,(l.length:Int),(k:Int),b)) (fun ny hny=>?_) (fun s ⟨b,hs⟩=>?_)
   ·refine Tt.b1 (Tt.ff rfl ?_)
    refine Tt.J (fun s=>∃ b,s=((d:Int),mx,(n:Int),l,(l.length:Int),(k:Int),b)) (fun nz hnz=>?_) (fun s ⟨b,hs⟩=>?_)
    ·exact Tt.b1 (Tt.ite (fun _=>hnz _ ⟨_,rfl⟩) (fun _=>hnz _ ⟨_,rfl⟩))
    ·subst hs;exact hny _ ⟨_,rfl⟩
   ·subst hs
    dsimp only
    refine Tt.ite (fun _=>Tt.pure (fun h=>by cases h)) (fun _=>Tt.ite (fun _=>Tt.pure (fun h=>by cases h)) (fun c2=>?_))
    have c2:=of_decide_eq_false c2
    have hnd:n≤d:=by omega
    have hn2:n≤2:=by
     unfold arK at har
     split at har
     ·cases har;omega
     ·split at har
      ·cases har;omega
      ·split at har<;>cases har
       omega
    rw[if_pos hnd] at htk
    refine Tt.b1 (Tt.b1 (Tt.b1 ?_))
    rw[wI (z:=1-(n:Int)) (by omega) (by omega),wI (by omega) (by omega),wI (by omega) (by omega)]
    exact hnx (l.length-(k+1)) _ (by omega) ⟨k+1,d-n+1,_,by omega,rfl,htk,by omega,by
     have e:(d:Int)+(1-(n:Int))=((d-n+1:Nat):Int):=by omega
     rw[e];rfl⟩
 ·have c:=of_decide_eq_false c
  have hke:k=l.length:=by omega
  rw[hke,List.take_length] at hd
  exact⟨d,hd,rfl,hl5⟩
def RxW (l:List jj):Prop:=zdk l 0=some 1∧l.length≤512
theorem zis (l:List jj) (hl:l.length≤1000000):Tn (fun nn=>Vz nn l) (fun e=>e=0→RxW l):=by
 unfold Vz
 refine Tt.bind (Tt.call (z6e l hl) Big.nat) fun r hr=>?_
 obtain⟨d,mx,e,u⟩:=r
 simp only at hr
 dsimp only
 refine Tt.J (fun s=>s.1=e∧(e=0→s.2=false→RxW l)) (fun nx hnx=>?_) (fun s ⟨h1,h2⟩=>?_)
 ·refine Tt.b1 (Tt.ite (fun c=>hnx _ ⟨rfl,fun h0 hf=>?_⟩) (fun c=>hnx _ ⟨rfl,fun h0 _=>?_⟩))
  ·obtain⟨dd,k1,k2,k3⟩:=hr h0
   have hf:=of_decide_eq_false hf
   have:d=1:=Classical.not_not.1 hf
   have:dd=1:=by omega
   subst this
   exact⟨k1,k3⟩
  ·exact absurd h0 (of_decide_eq_false c)
 ·refine Tt.ite (fun _=>Tt.pure (fun h=>by cases h)) (fun c=>Tt.pure (fun h=>?_))
  exact h2 (h1▸h) c
end Go.Proofs.YtdllbdlnmjngcaaGreat.T

namespace Go.Proofs.YtdllbdlnmjngcaaGreat.T
open Go Go.RowKit L
set_option linter.unusedVariables false
set_option linter.unusedSimpArgs false
structure GOk (g:jb):Prop where
 t:g.1.length≤64
 r:g.2.1.length≤64
 p:g.2.2.1.length≤256
 rx:∀ x∈g.1,RxW x.2.1
 left:∀ p∈g.2.2.1,0≤p.1∧p.1<g.2.1.length
 len:∀ p∈g.2.2.1,p.2.1.length≤16
 items:∀ p∈g.2.2.1,∀ x∈p.2.1,zfr g x
 start:0≤g.2.2.2.1∧g.2.2.2.1<g.2.1.length
structure Vd (g:jb):Prop extends GLen g where
 tn:∀ x∈g.1,x.2.1.length≤1000000
theorem sliT {α:Type} {l:List α} {k:Nat} (h:k≤l.length):zb3 l none (some (k:Int))=some (l.take k):=by
 unfold zb3 bdN
 simp[h]
abbrev c0 (g:jb):ju:=(g,(0,0,0,()),())
structure PrOk (g:jb) (p:jh):Prop where
 l0:0≤p.1
 l1:p.1<g.2.1.length
 n:p.2.1.length≤16
 it:∀ x∈p.2.1,zfr g x
theorem zzx (l:List qh) (hl:l.length≤1000000):Tn (fun nn=>zh6 nn l) (fun r=>r.length=l.length):=zsd l hl
theorem znk (g:jb) (hg:Vd g):Tn (fun nn=>Q5 nn g) (fun d=>d.1=0→GOk g):=by
 have ht:=hg.t
 have hr:=hg.r
 have hp:=hg.p
 unfold Q5
 refine Tt.J (fun s=>s.2.2.1.1=0→GOk g) (fun nx2 h2=>?_) (fun s hs=>Tt.pure hs)
 refine Tt.J (fun s=>(s.1=true→s.2.2.2.1.1≠0)∧(s.1=false→s.2.2=c0 g∧g.1.length≤64∧g.2.1.length≤64∧g.2.2.1.length≤256)) (fun nx4 h4=>?_) (fun s hs=>?_)
 ·obtain⟨L3,hL3⟩:∃ L3,L3=[T.w64 ((g.1.length:Int)-64),T.w64 ((g.2.1.length:Int)-64),T.w64 ((g.2.2.1.length:Int)-256)]:=⟨_,rfl⟩
  rw[← hL3]
  have hl3:L3.length=3:=by rw[hL3];rfl
  refine Tt.loop (fun m s=>∃ k:Nat,k≤3∧m=3-k∧s=(L3,3,(k:Int),c0 g)∧∀ i,i<k→∀ z,L3[i]? = some z→z≤0) 3 Big.nat ⟨0,by omega,by omega,by rw[hl3];rfl,fun i hi=>by omega⟩ fun m s ⟨k,hk,hm,hs,hle⟩ nx hnx=>?_
  subst hs
  dsimp only
  refine Tt.ite (fun c=>?_) (fun c=>?_)
  ·have c:=of_decide_eq_true c
   have hlt:k<L3.length:=by omega
   refine Tt.bs _ (atN hlt) (Tt.ite (fun _=>h4.fst _ ⟨fun _=>(by decide:(4:Int)≠0),fun h=>by cases h⟩) (fun c2=>Tt.b1 ?_))
   have c2:=of_decide_eq_false c2
   rw[wI (by omega) (by omega)]
   refine hnx (3-(k+1)) _ (by omega) ⟨k+1,by omega,rfl,by simp,fun i hi z hz=>?_⟩
   by_cases hik:i<k
   ·exact hle i hik z hz
   ·have:i=k:=by omega
    subst this
    rw[List.getElem?_eq_getElem hlt] at hz
    cases hz
    omega
  ·have c:=of_decide_eq_false c
   have hk3:k=3:=by omega
   subst hk3
   have z0:=hle 0 (by omega) (T.w64 ((g.1.length:Int)-64)) (by rw[hL3];rfl)
   have z1:=hle 1 (by omega) (T.w64 ((g.2.1.length:Int)-64)) (by rw[hL3];rfl)
   have z2:=hle 2 (by omega) (T.w64 ((g.2.2.1.length:Int)-256)) (by rw[hL3];rfl)
   rw[wI (by omega) (by omega)] at z0 z1 z2
   obtain⟨L4,hL4⟩:∃ L4,L4=[(⟨[1,(c0 g).1.2.2.2.2.1,4096],rfl⟩:Arr 3 Int),(⟨[0,(c0 g).1.2.2.2.2.2.1,65536],rfl⟩:Arr 3 Int),(⟨[1,(c0 g).1.2.2.2.2.2.2.1,65536],rfl⟩:Arr 3 Int),(⟨[1,(c0 g).1.2.2.2.2.2.2.2.1,1048576],rfl⟩:Arr 3 Int)]:=⟨_,rfl⟩
   rw[← hL4]
   have hl4:L4.length=4:=by rw[hL4];rfl
   refine Tt.loop (fun m s=>∃ k:Nat,k≤4∧m=4-k∧s=(L4,4,(k:Int),c0 g)) 4 Big.nat.fst ⟨0,by omega,by omega,by rw[hl4];rfl⟩ fun m s ⟨k,hk,hm,hs⟩ nx hnx=>?_
   subst hs
   dsimp only
   refine Tt.ite (fun c=>?_) (fun c=>h4.fst.fst _ ⟨fun h=>(by cases h),fun _=>⟨rfl,by omega,by omega,by omega⟩⟩)
   have c:=of_decide_eq_true c
   refine Tt.bs _ (atN (show k<L4.length by omega)) ?_
   have ha:∀ i:Nat,i<3→∃ z,atL (L4[k]'(by omega)).l (i:Int)=some z:=fun i hi=>⟨_,atN (by rw[(L4[k]'(by omega)).h];exact hi)⟩
   obtain⟨a0,e0⟩:=ha 0 (by omega)
   obtain⟨a1,e1⟩:=ha 1 (by omega)
   obtain⟨a2,e2⟩:=ha 2 (by omega)
   refine Tt.J (fun s=>∃ b,s=((k:Int),L4,4,(k:Int),b,c0 g)) (fun ny hny=>?_) (fun s ⟨b,hs⟩=>?_)
   ·exact Tt.bs 1 rfl (Tt.bs a1 e1 (Tt.bs 0 rfl (Tt.bs a0 e0 (Tt.b1 (Tt.ite (fun _=>hny _ ⟨true,rfl⟩) (fun _=>Tt.bs 1 rfl (Tt.bs a1 e1 (Tt.bs 2 rfl (Tt.bs a2 e2 (hny _ ⟨_,rfl⟩))))))))))
   ·subst hs
    dsimp only
    refine Tt.ite (fun _=>h4.fst.fst _ ⟨fun _=>(by decide:(2:Int)≠0),fun h=>by cases h⟩) (fun _=>Tt.b1 ?_)
    rw[wI (by omega) (by omega)]
    exact hnx (4-(k+1)) _ (by omega) ⟨k+1,by omega,rfl,by simp⟩
 ·obtain⟨f3,d3,c3⟩:=s
  obtain⟨hs1,hs2⟩:=hs
  simp only at hs1 hs2
  refine Tt.ite (fun c=>h2 _ fun h=>absurd h (hs1 c)) (fun c=>?_)
  obtain⟨rfl,bt,br,bp⟩:=hs2 c
  dsimp only
  refine Tt.J (fun s=>(s.1=true→s.2.2.2.1.1≠0)∧(s.1=false→s.2.2=c0 g∧∀ x∈g.1,RxW x.2.1)) (fun nx6 h6=>?_) (fun s hs=>?_)
  ·refine Tt.bind (Tt.call (zsd g.1 ht) Big.nat) fun ns hns=>?_
   refine Tt.loop (fun m s=>∃ k:Nat,k≤g.1.length∧m=g.1.length-k∧s=(ns,g.1,(g.1.length:Int),(k:Int),c0 g)∧∀ i,i<k→∀ x,g.1[i]? = some x→RxW x.2.1) g.1.length Big.nat ⟨0,by omega,by omega,rfl,fun i hi=>by omega⟩ fun m s ⟨k,hk,hm,hs,hrx⟩ nx hnx=>?_
   subst hs
   dsimp only
   refine Tt.ite (fun c=>?_) (fun c=>h6.fst _ ⟨fun h=>(by cases h),fun _=>⟨rfl,fun x hx=>?_⟩⟩)
   ·have c:=of_decide_eq_true c
    have hlt:k<g.1.length:=by omega
    have hmem:g.1[k]∈g.1:=List.getElem_mem hlt
    have q2:=hg.tn _ hmem
    refine Tt.bs _ (atN hlt) ?_
    refine Tt.J (fun s=>∃ f cc,s=(ns,(k:Int),g.1,(g.1.length:Int),(k:Int),f,cc,g.1[k])∧(f=true→cc.2.1.1≠0)∧(f=false→cc=c0 g)) (fun ny hny=>?_) (fun s ⟨f,cc,hs,k1,k2⟩=>?_)
    ·refine Tt.bs (ns.take k) (sliT (by omega)) ?_
     refine Tt.bind (Tt.call (zya _) Big.nat.fst) fun b _=>Tt.ite (fun _=>hny _ ⟨_,_,rfl,fun _=>(by decide:(7:Int)≠0),fun h=>by cases h⟩) (fun _=>?_)
     refine Tt.bind (Tt.call (zzg _ _ (by rw[List.length_take];omega)) Big.nat.fst) fun z _=>Tt.ite (fun _=>hny _ ⟨_,_,rfl,fun _=>(by decide:(8:Int)≠0),fun h=>by cases h⟩) (fun _=>hny _ ⟨_,_,rfl,fun h=>(by cases h),fun _=>rfl⟩)
    ·subst hs
     dsimp only
     refine Tt.ite (fun c=>h6.fst _ ⟨fun _=>k1 c,fun h=>by cases h⟩) (fun c=>?_)
     have:=k2 c
     subst this
     refine Tt.bind (Tt.call (zis _ q2) Big.nat.fst) fun e he=>Tt.ite (fun _=>h6.fst _ ⟨fun _=>(by decide:(9:Int)≠0),fun h=>by cases h⟩) (fun ce=>?_)
     have ce:e=0:=Classical.not_not.1 (of_decide_eq_false ce)
     have hw:=he ce
     refine Tt.J (fun s=>∃ f,s=(ns,(k:Int),g.1,(g.1.length:Int),(k:Int),f,c0 g)) (fun nz hnz=>?_) (fun s ⟨f,hs⟩=>?_)
     ·exact Tt.b1 (Tt.ite (fun _=>hnz _ ⟨_,rfl⟩) (fun _=>hnz _ ⟨_,rfl⟩))
     ·subst hs
      dsimp only
      refine Tt.ite (fun _=>h6.fst _ ⟨fun _=>(by decide:(1:Int)≠0),fun h=>by cases h⟩) (fun _=>Tt.b1 ?_)
      rw[wI (by omega) (by omega)]
      refine hnx (g.1.length-(k+1)) _ (by omega) ⟨k+1,by omega,rfl,by simp,fun i hi x hx=>?_⟩
      by_cases hik:i<k
      ·exact hrx i hik x hx
      ·have:i=k:=by omega
       subst this
       rw[List.getElem?_eq_getElem hlt] at hx
       cases hx
       exact hw
   ·have c:=of_decide_eq_false c
    obtain⟨i,hi⟩:=List.getElem?_of_mem hx
    exact hrx i (by have:=(List.getElem?_eq_some_iff.1 hi).1;omega) x hi
  ·obtain⟨f5,d5,c5⟩:=s
   obtain⟨hs1,hs2⟩:=hs
   simp only at hs1 hs2
   refine Tt.ite (fun c=>h2 _ fun h=>absurd h (hs1 c)) (fun c=>?_)
   obtain⟨rfl,brx⟩:=hs2 c
   dsimp only
   refine Tt.J (fun s=>(s.1=true→s.2.2.2.1.1≠0)∧(s.1=false→s.2.2=c0 g)) (fun nx8 h8=>?_) (fun s hs=>?_)
   ·refine Tt.bind (Tt.call (zzx g.1 ht) Big.nat) fun ns hns=>?_
    refine Tt.loop (fun m s=>∃(k:Nat) (ns:List (List UInt8)),k≤g.2.1.length∧m=g.2.1.length-k∧ns.length=g.1.length+k∧s=(g.2.1,(g.2.1.length:Int),(k:Int),c0 g,ns)) g.2.1.length Big.nat ⟨0,ns,by omega,by omega,by omega,rfl⟩ fun m s ⟨k,ns,hk,hm,hn,hs⟩ nx hnx=>?_
    subst hs
    dsimp only
    refine Tt.ite (fun c=>?_) (fun c=>h8.fst _ ⟨fun h=>(by cases h),fun _=>rfl⟩)
    have c:=of_decide_eq_true c
    have hlt:k<g.2.1.length:=by omega
    have hmem:g.2.1[k]∈g.2.1:=List.getElem_mem hlt
    refine Tt.bs _ (atN hlt) ?_
    refine Tt.J (fun s=>∃ f cc,s=(g.2.1[k],g.2.1,(g.2.1.length:Int),(k:Int),f,cc,ns)∧(f=true→cc.2.1.1≠0)∧(f=false→cc=c0 g)) (fun ny hny=>?_) (fun s ⟨f,cc,hs,k1,k2⟩=>?_)
    ·refine Tt.bind (Tt.call (zya _) Big.nat.fst) fun b _=>Tt.ite (fun _=>hny _ ⟨_,_,rfl,fun _=>(by decide:(7:Int)≠0),fun h=>by cases h⟩) (fun _=>?_)
     refine Tt.bind (Tt.call (zzg _ _ (by omega)) Big.nat.fst) fun z _=>Tt.ite (fun _=>hny _ ⟨_,_,rfl,fun _=>(by decide:(8:Int)≠0),fun h=>by cases h⟩) (fun _=>hny _ ⟨_,_,rfl,fun h=>(by cases h),fun _=>rfl⟩)
    ·subst hs
     dsimp only
     refine Tt.ite (fun c=>h8.fst _ ⟨fun _=>k1 c,fun h=>by cases h⟩) (fun c=>?_)
     have:=k2 c
     subst this
     refine Tt.bs _ (V7 (by simp;omega) (by omega)) (Tt.b1 ?_)
     rw[wI (by omega) (by omega)]
     exact hnx (g.2.1.length-(k+1)) _ (by omega) ⟨k+1,ns++[g.2.1[k]],by omega,rfl,by simp;omega,by simp⟩
   ·obtain⟨f7,d7,c7⟩:=s
    obtain⟨hs1,hs2⟩:=hs
    simp only at hs1 hs2
    refine Tt.ite (fun c=>h2 _ fun h=>absurd h (hs1 c)) (fun c=>?_)
    have:=hs2 c
    subst this
    dsimp only
    refine Tt.J (fun s=>(s.1=true→s.2.2.2.1.1≠0)∧(s.1=false→s.2.2=c0 g∧∀ p∈g.2.2.1,PrOk g p)) (fun nx10 h10=>?_) (fun s hs=>?_)
    ·refine Tt.J (fun s=>(s.1=true→s.2.2.1.1≠0)∧(s.1=false→s.2=c0 g∧∀ p∈g.2.2.1,PrOk g p)) (fun nx21 h21=>?_) (fun s hs=>h10 _ hs)
     refine Tt.loop (fun m s=>∃ k:Nat,k≤g.2.2.1.length∧m=g.2.2.1.length-k∧s=(g.2.2.1,(g.2.2.1.length:Int),(k:Int),c0 g)∧∀ i,i<k→∀ x,g.2.2.1[i]? = some x→PrOk g x) g.2.2.1.length Big.nat ⟨0,by omega,by omega,rfl,fun i hi=>by omega⟩ fun m s ⟨k,hk,hm,hs,hok⟩ nx hnx=>?_
     subst hs
     dsimp only
     refine Tt.ite (fun c=>?_) (fun c=>h21.fst _ ⟨fun h=>(by cases h),fun _=>⟨rfl,fun x hx=>?_⟩⟩)
     ·have c:=of_decide_eq_true c
      have hlt:k<g.2.2.1.length:=by omega
      have hmem:g.2.2.1[k]∈g.2.2.1:=List.getElem_mem hlt
      refine Tt.bs _ (atN hlt) ?_
      obtain⟨p,ep⟩:∃ p,g.2.2.1[k]=p:=⟨_,rfl⟩
      rw[ep] at hmem ⊢
      refine Tt.J (fun s=>∃ f,s=((k:Int),g.2.2.1,(g.2.2.1.length:Int),(k:Int),f,c0 g,p)∧(f=false→0≤p.1∧p.1<g.2.1.length)) (fun ny hny=>?_) (fun s ⟨f,hs,hl⟩=>?_)
      ·refine Tt.b1 (Tt.ite (fun _=>hny _ ⟨true,rfl,fun h=>by cases h⟩) (fun c1=>hny _ ⟨_,rfl,fun h=>?_⟩))
       have c1:=of_decide_eq_false c1
       have h:=of_decide_eq_false h
       exact⟨by omega,by omega⟩
      ·subst hs
       dsimp only
       refine Tt.ite (fun _=>h10.fst _ ⟨fun _=>(by decide:(11:Int)≠0),fun h=>by cases h⟩) (fun cf=>?_)
       have hleft:=hl cf
       refine Tt.ite (fun _=>h10.fst _ ⟨fun _=>(by decide:(4:Int)≠0),fun h=>by cases h⟩) (fun c16=>?_)
       have c16:=of_decide_eq_false c16
       refine Tt.loop (fun m s=>∃ i:Nat,i≤p.2.1.length∧m=p.2.1.length-i∧s=((k:Int),g.2.2.1,(g.2.2.1.length:Int),(k:Int),p.2.1,(p.2.1.length:Int),(i:Int),c0 g)∧∀ j,j<i→∀ x,p.2.1[j]? = some x→zfr g x) p.2.1.length Big.nat.fst ⟨0,by omega,by omega,rfl,fun i hi=>by omega⟩ fun m s ⟨i,hi,hm2,hs,hit⟩ nz hnz=>?_
       subst hs
       dsimp only
       refine Tt.ite (fun c=>?_) (fun c=>?_)
       ·have c:=of_decide_eq_true c
        have hil:i<p.2.1.length:=by omega
        refine Tt.bs _ (atN hil) (Tt.bind (Tt.call (z6a g (0,0,0,()) (p.2.1[i])) Big.nat.fst.fst) fun e he=>?_)
        refine Tt.ite (fun ce=>h21.fst.fst _ ⟨fun _=>of_decide_eq_true ce,fun h=>by cases h⟩) (fun ce=>Tt.b1 ?_)
        have ce:e=0:=Classical.not_not.1 (of_decide_eq_false ce)
        rw[wI (by omega) (by omega)]
        refine hnz (p.2.1.length-(i+1)) _ (by omega) ⟨i+1,by omega,rfl,by simp,fun j hj x hx=>?_⟩
        by_cases hji:j<i
        ·exact hit j hji x hx
        ·have:j=i:=by omega
         subst this
         rw[List.getElem?_eq_getElem hil] at hx
         cases hx
         exact he ce
       ·have c:=of_decide_eq_false c
        refine Tt.b1 ?_
        rw[wI (by omega) (by omega)]
        refine Tt.fst (hnx (g.2.2.1.length-(k+1)) _ (by omega) ⟨k+1,by omega,rfl,by simp,fun j hj x hx=>?_⟩)
        by_cases hjk:j<k
        ·exact hok j hjk x hx
        ·have:j=k:=by omega
         subst this
         rw[List.getElem?_eq_getElem hlt,ep] at hx
         cases hx
         refine⟨hleft.1,hleft.2,by omega,fun y hy=>?_⟩
         obtain⟨j2,hj2⟩:=List.getElem?_of_mem hy
         exact hit j2 (by have:=(List.getElem?_eq_some_iff.1 hj2).1;omega) y hj2
     ·have c:=of_decide_eq_false c
      obtain⟨i,hi⟩:=List.getElem?_of_mem hx
      exact hok i (by have:=(List.getElem?_eq_some_iff.1 hi).1;omega) x hi
    ·obtain⟨f9,d9,c9⟩:=s
     obtain⟨hs1,hs2⟩:=hs
     simp only at hs1 hs2
     refine Tt.ite (fun c=>h2 _ fun h=>absurd h (hs1 c)) (fun c=>?_)
     obtain⟨rfl,hok⟩:=hs2 c
     dsimp only
     refine Tt.J (fun s=>(s.1=true→s.2.2.2.1.1≠0)∧(s.1=false→s.2.2=c0 g∧0≤g.2.2.2.1∧g.2.2.2.1<g.2.1.length)) (fun nx12 h12=>?_) (fun s hs=>?_)
     ·refine Tt.J (fun s=>∃ f,s=(f,c0 g)∧(f=false→0≤g.2.2.2.1∧g.2.2.2.1<g.2.1.length)) (fun ny hny=>?_) (fun s ⟨f,hs,hst⟩=>?_)
      ·refine Tt.b1 (Tt.ite (fun _=>hny _ ⟨true,rfl,fun h=>by cases h⟩) (fun c1=>hny _ ⟨_,rfl,fun h=>?_⟩))
       have c1:=of_decide_eq_false c1
       have h:=of_decide_eq_false h
       exact⟨by omega,by omega⟩
      ·subst hs
       dsimp only
       refine Tt.ite (fun _=>h12 _ ⟨fun _=>(by decide:(11:Int)≠0),fun h=>by cases h⟩) (fun cf=>?_)
       have hst:=hst cf
       refine Tt.loop (fun m s=>∃ k:Nat,k≤g.2.1.length∧m=g.2.1.length-k∧s=((g.2.1.length:Int),(k:Int),c0 g)) g.2.1.length Big.nat ⟨0,by omega,by omega,rfl⟩ fun m s ⟨k,hk,hm,hs⟩ nx hnx=>?_
       subst hs
       dsimp only
       refine Tt.ite (fun c=>?_) (fun c=>h12.fst _ ⟨fun h=>(by cases h),fun _=>⟨rfl,hst⟩⟩)
       have c:=of_decide_eq_true c
       refine Tt.bind (Tt.call (Of_tot g hg.toGLen (k:Int)) Big.nat.fst) fun l _=>Tt.ite (fun _=>h12.fst _ ⟨fun _=>(by decide:(5:Int)≠0),fun h=>by cases h⟩) (fun _=>Tt.b1 ?_)
       rw[wI (by omega) (by omega)]
       exact hnx (g.2.1.length-(k+1)) _ (by omega) ⟨k+1,by omega,rfl,by simp⟩
     ·obtain⟨f11,d11,c11⟩:=s
      obtain⟨hs1,hs2⟩:=hs
      simp only at hs1 hs2
      refine Tt.ite (fun c=>h2 _ fun h=>absurd h (hs1 c)) (fun c=>h2 _ fun h=>?_)
      obtain⟨_,hst⟩:=hs2 c
      exact⟨bt,br,bp,brx,fun p hp=>⟨(hok p hp).l0,(hok p hp).l1⟩,fun p hp=>(hok p hp).n,fun p hp=>(hok p hp).it,hst⟩
theorem zfx (g:jb) (hg:Vd g):Tn (fun nn=>qm nn g) (fun b=>b=true→GOk g):=by
 unfold qm
 exact Tt.bind (Tt.call (znk g hg) Big.nat) fun d hd=>Tt.pure fun h=>hd (of_decide_eq_true h)
end Go.Proofs.YtdllbdlnmjngcaaGreat.T

namespace Go.Proofs.YtdllbdlnmjngcaaGreat.T
open Go Go.RowKit L
set_option linter.unusedVariables false
set_option linter.unusedSimpArgs false
theorem at0 {α:Type} (x:α) (l:List α):atL (x :: l) 0=some x:=rfl
theorem sl1 {α:Type} (x:α) (l:List α):zb3 (x :: l) (some 1) none=some l:=by
 unfold zb3 bdN
 simp
structure UnI (a b a' b' out:List Int):Prop where
 m:∀ x,(x∈a∨x∈b)↔(x∈out∨x∈a'∨x∈b')
 l:out.length+a'.length+b'.length≤a.length+b.length
 r:ve a→ve b→ve a'∧ve b'∧ve out∧∀ x∈out,(∀ y∈a',x<y)∧∀ y∈b',x<y
theorem zn3 {l:List Int} {x:Int} (h:ve l) (hx:∀ y∈l,y<x):ve (l++[x]):=by
 unfold ve at *
 rw[List.pairwise_append]
 exact⟨h,by simp,fun y hy z hz=>by simp at hz;subst hz;exact hx y hy⟩
theorem z5a (a b:List Int) (hl:a.length+b.length≤1000000):Tn (fun nn=>yp nn a b) (fun r=>r.length≤a.length+b.length∧(∀ x,x∈r↔x∈a∨x∈b)∧(ve a→ve b→ve r)):=by
 unfold yp
 refine Tt.loop (fun m s=>∃ a' b' out,m=a'.length+b'.length∧s=(a',b',out)∧UnI a b a' b' out) (a.length+b.length) Big.nat ⟨a,b,[],rfl,rfl,⟨fun x=>by simp,by simp,fun h1 h2=>⟨h1,h2,by simp[ve],by simp⟩⟩⟩ fun m s ⟨a',b',out,hm,hs,hI⟩ nx hnx=>?_
 subst hs
 have hlen:=hI.l
 have hap:∀ x:Int,out.length+1≤1000000→apO 8 out [x]=some (out++[x]):=fun x h=>V7 (by simp;omega) (by omega)
 have tk1:∀ {x:Int} {a1:List Int},a'=x :: a1→(ve b'→∀ y∈b',x<y)→UnI a b a1 b' (out++[x]):=fun {x a1} e hlt=>by
  subst e
  refine⟨fun z=>by rw[hI.m];simp;grind,by have:=hI.l;simp at this ⊢;omega,fun h1 h2=>?_⟩
  obtain⟨r1,r2,r3,r4⟩:=hI.r h1 h2
  have r1':=List.pairwise_cons.1 r1
  refine⟨r1'.2,r2,zn3 r3 fun y hy=>(r4 y hy).1 x (by simp),fun z hz=>?_⟩
  rcases List.mem_append.1 hz with hz | hz
  ·exact⟨fun y hy=>(r4 z hz).1 y (by simp[hy]),(r4 z hz).2⟩
  ·simp at hz;subst hz;exact⟨r1'.1,hlt r2⟩
 have tk2:∀ {y:Int} {b1:List Int},b'=y :: b1→(ve a'→∀ x∈a',y<x)→UnI a b a' b1 (out++[y]):=fun {y b1} e hlt=>by
  subst e
  refine⟨fun z=>by rw[hI.m];simp;grind,by have:=hI.l;simp at this ⊢;omega,fun h1 h2=>?_⟩
  obtain⟨r1,r2,r3,r4⟩:=hI.r h1 h2
  have r2':=List.pairwise_cons.1 r2
  refine⟨r1,r2'.2,zn3 r3 fun z hz=>(r4 z hz).2 y (by simp),fun z hz=>?_⟩
  rcases List.mem_append.1 hz with hz | hz
  ·exact⟨(r4 z hz).1,fun x hx=>(r4 z hz).2 x (by simp[hx])⟩
  ·simp at hz;subst hz;exact⟨hlt r1,r2'.1⟩
 have tk3:∀ {x:Int} {a1 b1:List Int},a'=x :: a1→b'=x :: b1→UnI a b a1 b1 (out++[x]):=fun {x a1 b1} e1 e2=>by
  subst e1;subst e2
  refine⟨fun z=>by rw[hI.m];simp;grind,by have:=hI.l;simp at this ⊢;omega,fun h1 h2=>?_⟩
  obtain⟨r1,r2,r3,r4⟩:=hI.r h1 h2
  have r1':=List.pairwise_cons.1 r1
  have r2':=List.pairwise_cons.1 r2
  refine⟨r1'.2,r2'.2,zn3 r3 fun z hz=>(r4 z hz).2 x (by simp),fun z hz=>?_⟩
  rcases List.mem_append.1 hz with hz | hz
  ·exact⟨fun y hy=>(r4 z hz).1 y (by simp[hy]),fun y hy=>(r4 z hz).2 y (by simp[hy])⟩
  ·simp at hz;subst hz;exact⟨r1'.1,r2'.1⟩
 have hd:∀ {x y:Int} {l:List Int},x<y→ve (y :: l)→∀ z∈y :: l,x<z:=fun {x y l} h hr z hz=>by
  have:=List.pairwise_cons.1 hr
  rcases List.mem_cons.1 hz with rfl | hz
  ·exact h
  ·have:=this.1 z hz;omega
 cases a' with
 | nil=>
  cases b' with
  | nil=>
   simp[T.J,ja,ifB]
   refine Tt.pure ⟨by have:=hI.l;simpa using this,fun x=>?_,fun h1 h2=>(hI.r h1 h2).2.2.1⟩
   have:=hI.m x
   simp at this
   exact this.symm
  | cons y b1=>
   have hn:=hap y (by simp at hlen;omega)
   simp[T.J,ja,ifB,at0,sl1,hn]
   exact hnx _ _ (by subst hm;simp) ⟨[],b1,_,rfl,rfl,tk2 rfl fun _ x hx=>by cases hx⟩
 | cons x a1=>
  cases b' with
  | nil=>
   have hn:=hap x (by simp at hlen;omega)
   simp[T.J,ja,ifB,at0,sl1,hn]
   exact hnx _ _ (by subst hm;simp) ⟨a1,[],_,rfl,rfl,tk1 rfl fun _ x hx=>by cases hx⟩
  | cons y b1=>
   have hn1:=hap x (by simp at hlen;omega)
   have hn2:=hap y (by simp at hlen;omega)
   have hz1:¬((b1.length:Int)+1=0):=by omega
   have hz2:¬((a1.length:Int)+1=0):=by omega
   have hz3:(0:Int)<(a1.length:Int)+1:=by omega
   by_cases h1:x<y
   ·simp[T.J,ja,ifB,at0,sl1,hn1,hn2,h1,hz1,hz2,hz3]
    exact hnx _ _ (by subst hm;simp<;>omega) ⟨a1,y :: b1,_,rfl,rfl,tk1 rfl (hd h1)⟩
   ·by_cases h2:y<x
    ·simp[T.J,ja,ifB,at0,sl1,hn1,hn2,h1,h2,hz1,hz2,hz3]
     exact hnx _ _ (by subst hm;simp<;>omega) ⟨x :: a1,b1,_,rfl,rfl,tk2 rfl (hd h2)⟩
    ·have e:x=y:=by omega
     subst e
     simp[T.J,ja,ifB,at0,sl1,hn1,hz1,hz2,hz3]
     exact hnx _ _ (by subst hm;simp<;>omega) ⟨a1,b1,_,rfl,rfl,tk3 rfl rfl⟩
end Go.Proofs.YtdllbdlnmjngcaaGreat.T

namespace Go.Proofs.YtdllbdlnmjngcaaGreat.T
open Go Go.RowKit L
set_option linter.unusedVariables false
set_option linter.unusedSimpArgs false
theorem zn {n k:Nat} (h:k<n):qz n (k:Int)=some (k:Int):=by
 unfold qz
 simp[h]
theorem zgn {α:Type} {l:List α} {k:Nat} (x:α) (h:k<l.length):Zg l (k:Int) x=some (l.set k x):=by
 unfold Zg
 simp[h]
theorem mkN {b n:Nat} (h1:n≤1000000) (h2:b≤1000):mkO b (n:Int)=some n:=by
 unfold mkO
 have e1:decide ((n:Nat)≤maxLen)=true:=decide_eq_true (by simp only[maxLen];omega)
 have e2:decide (b*n≤281474976710656)=true:=decide_eq_true (by have:=Nat.mul_le_mul h2 h1;omega)
 simp[e1,e2]
def Qd:List Bool→Nat
 | []=>0
 | b :: l=>(if b=true then 0 else 1)+Qd l
theorem zhb:∀ {l:List Bool} {k:Nat},l[k]? = some false→Qd (l.set k true)+1=Qd l
 | [],k,h=>by simp at h
 | b :: l,0,h=>by
  simp at h;subst h
  simp[Qd];omega
 | b :: l,k+1,h=>by
  have:=zhb (l:=l) (k:=k) (by simpa using h)
  simp[Qd];omega
def emC (r:List Bool) (p:jh):Prop:=(∀ x∈p.2.1,x.1=true∧r[x.2.1.toNat]? = some true)→r[p.1.toNat]? = some true
theorem z4m (g:jb) (x:jf) (r:List Bool) (hr:r.length=g.2.1.length) (hx:zfr g x):Tn (fun nn=>Vl nn x r) (fun b=>b=true↔x.1=true∧r[x.2.1.toNat]? = some true):=by
 unfold Vl
 refine Tt.J (fun b=>b=true↔x.1=true∧r[x.2.1.toNat]? = some true) (fun nx hnx=>?_) (fun s hs=>Tt.pure hs)
 refine Tt.ite (fun c=>?_) (fun c=>hnx _ (by simp[c]))
 obtain⟨h1,h2⟩:=hx
 rw[if_pos c] at h2
 have hl:x.2.1.toNat<r.length:=by omega
 refine Tt.bs _ (zcb h1 (List.getElem?_eq_getElem hl)) (hnx _ ?_)
 rw[List.getElem?_eq_getElem hl]
 simp[c]
abbrev GR (g:jb):Prop:=Tn (fun nn=>qm nn g) (fun b=>b=true)
theorem z45 (g:jb) (hg:Vd g) (hR:GR g) (hok:GOk g):Tn (fun nn=>q5 nn g) (fun r=>r.length=g.2.1.length∧∀ p∈g.2.2.1,emC r p):=by
 unfold q5
 refine Tt.J (fun r=>r.length=g.2.1.length∧∀ p∈g.2.2.1,emC r p) (fun nx2 h2=>?_) (fun s hs=>Tt.pure hs)
 refine Tt.bind (Tt.call hR Big.nat) fun b hb=>?_
 subst hb
 refine Tt.ff rfl ?_
 have hp:=hg.p
 refine Tt.b1 (Tt.bs _ (mkN hg.r (by omega)) ?_)
 refine Tt.loop (fun m s=>∃(more:Bool) (r:List Bool),m=2*Qd r+(if more=true then 1 else 0)∧s=(g.2.2.1,more,r)∧r.length=g.2.1.length∧(more=false→∀ p∈g.2.2.1,emC r p)) (2*Qd (List.replicate g.2.1.length false)+1) Big.nat ⟨true,_,rfl,rfl,by simp,fun h=>by cases h⟩ fun m s ⟨more,r,hm,hs,hl,hcl⟩ nx hnx=>?_
 subst hs
 dsimp only
 refine Tt.ite (fun c=>?_) (fun c=>h2.fst _ ⟨hl,hcl c⟩)
 subst c
 rw[if_pos rfl] at hm
 refine Tt.loop (fun m s=>∃(k:Nat) (more:Bool) (r1:List Bool),k≤g.2.2.1.length∧m=g.2.2.1.length-k∧s=(g.2.2.1,more,g.2.2.1,(g.2.2.1.length:Int),(k:Int),r1)∧r1.length=g.2.1.length∧(more=true→Qd r1<Qd r)∧(more=false→r1=r∧∀ i,i<k→∀ p,g.2.2.1[i]? = some p→emC r p)) g.2.2.1.length Big.nat.fst ⟨0,false,r,by omega,by omega,rfl,hl,fun h=>(by cases h),fun _=>⟨rfl,fun i hi=>by omega⟩⟩ fun m2 s ⟨k,more,r1,hk,hm2,hs,hl1,ht,hf⟩ ny hny=>?_
 subst hs
 dsimp only
 refine Tt.ite (fun c=>?_) (fun c=>?_)
 ·have c:=of_decide_eq_true c
  have hlt:k<g.2.2.1.length:=by omega
  have hmem:g.2.2.1[k]∈g.2.2.1:=List.getElem_mem hlt
  refine Tt.bs _ (atN hlt) ?_
  have egp:g.2.2.1[k]? = some g.2.2.1[k]:=List.getElem?_eq_getElem hlt
  obtain⟨p,ep⟩:∃ p,g.2.2.1[k]=p:=⟨_,rfl⟩
  rw[ep] at hmem egp ⊢
  obtain⟨l0,l1⟩:=hok.left p hmem
  have hit:=hok.items p hmem
  have hpl:=hok.len p hmem
  obtain⟨q,hq⟩:∃ q:Nat,p.1=q:=⟨p.1.toNat,by omega⟩
  have hql:q<r1.length:=by omega
  refine Tt.J (fun s=>∃(more:Bool) (r1:List Bool),s=(g.2.2.1,more,g.2.2.1,(g.2.2.1.length:Int),(k:Int),r1)∧r1.length=g.2.1.length∧(more=true→Qd r1<Qd r)∧(more=false→r1=r∧∀ i,i<k+1→∀ p,g.2.2.1[i]? = some p→emC r p)) (fun nz hnz=>?_) (fun s ⟨more,r1,hs,hl1,ht,hf⟩=>?_)
  ·have keep:emC r1 p→(more=false→r1=r∧∀ i,i<k+1→∀ p,g.2.2.1[i]? = some p→emC r p):=fun he hmf=>by
    obtain⟨e1,e2⟩:=hf hmf
    refine⟨e1,fun i hi x hx=>?_⟩
    by_cases hik:i<k
    ·exact e2 i hik x hx
    ·have:i=k:=by omega
     subst this
     rw[egp] at hx
     cases hx
     rw[← e1];exact he
   rw[hq]
   refine Tt.bs _ (zn hql) (Tt.bs _ (atN hql) ?_)
   refine Tt.ite (fun c=>hnz _ ⟨more,r1,rfl,hl1,ht,keep fun _=>?_⟩) (fun c=>?_)
   ·rw[hq,Int.toNat_natCast,List.getElem?_eq_getElem hql,c]
   ·have hqf:r1[q]? = some false:=by rw[List.getElem?_eq_getElem hql,c]
    refine Tt.loop (fun m s=>∃ i:Nat,i≤p.2.1.length∧m=p.2.1.length-i∧s=(p.2.1,(p.2.1.length:Int),(i:Int),r1,p)) p.2.1.length Big.nat.fst.fst ⟨0,by omega,by omega,rfl⟩ fun m3 s ⟨i,hi,hm3,hs⟩ nw hnw=>?_
    subst hs
    dsimp only
    refine Tt.ite (fun c=>?_) (fun c=>?_)
    ·have c:=of_decide_eq_true c
     have hil:i<p.2.1.length:=by omega
     have hxm:p.2.1[i]∈p.2.1:=List.getElem_mem hil
     refine Tt.bs _ (atN hil) (Tt.bind (Tt.call (z4m g _ r1 hl1 (hit _ hxm)) Big.nat.fst.fst.fst) fun b hb=>?_)
     refine Tt.ite (fun cb=>hnz.fst _ ⟨more,r1,rfl,hl1,ht,keep fun hall=>?_⟩) (fun _=>Tt.b1 ?_)
     ·have:=hb.2 (hall _ hxm)
      rw[this] at cb
      cases cb
     ·rw[wI (by omega) (by omega)]
      exact hnw (p.2.1.length-(i+1)) _ (by omega) ⟨i+1,by omega,rfl,by simp⟩
    ·rw[hq]
     refine Tt.bs _ (zn hql) (Tt.bs _ (zgn true hql) (hnz.fst _ ⟨true,_,rfl,by simpa using hl1,fun _=>?_,fun h=>by cases h⟩))
     have:=zhb hqf
     cases hmo:more with
     | true=>have:=ht hmo;omega
     | false=>have:=(hf hmo).1;subst this;omega
  ·subst hs
   dsimp only
   refine Tt.b1 ?_
   rw[wI (by omega) (by omega)]
   exact hny (g.2.2.1.length-(k+1)) _ (by omega) ⟨k+1,more,r1,by omega,rfl,by simp,hl1,ht,hf⟩
 ·have c:=of_decide_eq_false c
  cases hmo:more with
  | true=>
   have:=ht hmo
   exact Tt.fst (hnx (2*Qd r1+1) _ (by omega) ⟨true,r1,rfl,rfl,hl1,fun h=>by cases h⟩)
  | false=>
   obtain⟨e1,e2⟩:=hf hmo
   subst e1
   exact Tt.fst (hnx (2*Qd r1) _ (by omega) ⟨false,r1,rfl,rfl,hl1,fun _ p hp=>by
    obtain⟨i,hi⟩:=List.getElem?_of_mem hp
    exact e2 i (by have:=(List.getElem?_eq_some_iff.1 hi).1;omega) p hi⟩)
end Go.Proofs.YtdllbdlnmjngcaaGreat.T

namespace Go.Proofs.YtdllbdlnmjngcaaGreat.T
open Go Go.RowKit L
set_option linter.unusedVariables false
set_option linter.unusedSimpArgs false
theorem z2x (N:Int):∀(l:List Int) (lo:Int),ve l→(∀ x∈l,lo≤x∧x<N)→(l.length:Int)≤max 0 (N-lo)
 | [],lo,_,_=>by simp;omega
 | x :: l,lo,hr,hb=>by
  have h1:=List.pairwise_cons.1 hr
  have hx:=hb x (by simp)
  have:=z2x N l (x+1) h1.2 fun y hy=>⟨by have:=h1.1 y hy;omega,(hb y (by simp[hy])).2⟩
  simp only[List.length_cons]
  omega
theorem z0j (l:List Int) (h:ve l) (N:Nat) (hb:∀ x∈l,0≤x∧x<(N:Int)):l.length≤N:=by
 have:=z2x N l 0 h hb
 omega
structure RN (n:Nat) (l:List Int):Prop where
 r:ve l
 b:∀ x∈l,0≤x∧x<n
theorem RN.len {n:Nat} {l:List Int} (h:RN n l):l.length≤n:=z0j l h.r n h.b
theorem RN.nil (n:Nat):RN n []:=⟨by simp[ve],by simp⟩
def inF (em:List Bool) (al:List (List Int)) (t:Int):List jf→Prop
 | []=>False
 | x :: l=>if x.1=true then t∈al.getD x.2.1.toNat []∨(em.getD x.2.1.toNat false=true∧inF em al t l) else t=x.2.1
theorem zaj {n:Nat} {a b:List Int} (hn:n≤1000) (ha:RN n a) (hb:RN n b):Tn (fun nn=>J6 nn a b) (fun r=>RN n r∧∀ x,x∈r↔x∈a∨x∈b):=by
 have h1:=ha.len
 have h2:=hb.len
 refine Tt.mono (z5a a b (by omega):Tn (fun nn=>J6 nn a b) _) fun r ⟨_,k2,k3⟩=>⟨⟨k3 ha.r hb.r,fun x hx=>?_⟩,k2⟩
 rcases(k2 x).1 hx with h | h
 ·exact ha.b x h
 ·exact hb.b x h
theorem z5n (g:jb) (hok:GOk g) (em:List Bool) (al:List (List Int)) (he:em.length=g.2.1.length) (ha:al.length=g.2.1.length) (hal:∀ l∈al,RN g.1.length l) (its:List jf) (hl:its.length≤1000) (hit:∀ x∈its,zfr g x) :
  Tn (fun nn=>zd nn (some (em,al,())) its) (fun r=>RN g.1.length r∧∀ t,t∈r↔inF em al t its):=by
 have ht:=hok.t
 unfold zd Qb
 refine Tt.J (fun r=>RN g.1.length r∧∀ t,t∈r↔inF em al t its) (fun nx2 h2=>?_) (fun s hs=>Tt.pure hs)
 refine Tt.loop (fun m s=>∃(k:Nat) (out:List Int),k≤its.length∧m=its.length-k∧s=(some (em,al,()),its,(its.length:Int),(k:Int),out)∧RN g.1.length out∧∀ t,inF em al t its↔t∈out∨inF em al t (its.drop k)) its.length Big.nat ⟨0,[],by omega,by omega,rfl,RN.nil _,fun t=>by simp⟩ fun m s ⟨k,out,hk,hm,hs,hr,hin⟩ nx hnx=>?_
 subst hs
 dsimp only
 refine Tt.ite (fun c=>?_) (fun c=>h2.fst _ ⟨hr,fun t=>?_⟩)
 ·have c:=of_decide_eq_true c
  have hlt:k<its.length:=by omega
  have hxm:its[k]∈its:=List.getElem_mem hlt
  have hdr:its.drop k=its[k] :: its.drop (k+1):=List.drop_eq_getElem_cons hlt
  refine Tt.bs _ (atN hlt) ?_
  obtain⟨x,ex⟩:∃ x,its[k]=x:=⟨_,rfl⟩
  rw[ex] at hxm hdr ⊢
  rw[hdr] at hin
  obtain⟨i1,i2⟩:=hit x hxm
  refine Tt.ite (fun cx=>?_) (fun cx=>?_)
  ·have cx:x.1=false:=by simpa using cx
   rw[cx] at i2
   simp only[Bool.false_eq_true,if_false] at i2
   refine Tt.bind (Tt.call (zaj (n:=g.1.length) (by omega) hr ⟨by simp[ve],fun y hy=>by simp at hy;subst hy;exact⟨i1,i2⟩⟩) Big.nat.fst) fun r ⟨k1,k2⟩=>Tt.pure ⟨k1,fun t=>?_⟩
   rw[k2,hin]
   simp[inF,cx]
  ·have cx:x.1=true:=by simpa using cx
   rw[cx,if_pos rfl] at i2
   have hla:x.2.1.toNat<al.length:=by omega
   have hle:x.2.1.toNat<em.length:=by omega
   refine Tt.b1 (Tt.bs _ (zcb i1 (List.getElem?_eq_getElem hla)) ?_)
   refine Tt.bind (Tt.call (zaj (n:=g.1.length) (by omega) hr (hal _ (List.getElem_mem hla))) Big.nat.fst) fun r ⟨k1,k2⟩=>?_
   refine Tt.b1 (Tt.bs _ (zcb i1 (List.getElem?_eq_getElem hle)) ?_)
   have e1:al.getD x.2.1.toNat []=al[x.2.1.toNat]:=by simp[List.getD,hla]
   have e2:em.getD x.2.1.toNat false=em[x.2.1.toNat]:=by simp[List.getD,hle]
   refine Tt.ite (fun ce=>h2.fst _ ⟨k1,fun t=>?_⟩) (fun ce=>Tt.b1 ?_)
   ·have ce:em[x.2.1.toNat]=false:=by simpa using ce
    rw[k2,hin]
    simp[inF,cx,List.getD,hla,hle,ce]
   ·have ce:em[x.2.1.toNat]=true:=by simpa using ce
    rw[wI (by omega) (by omega)]
    refine hnx (its.length-(k+1)) _ (by omega) ⟨k+1,r,by omega,rfl,by simp,k1,fun t=>?_⟩
    rw[hin,k2]
    simp[inF,cx,List.getD,hla,hle,ce,or_assoc]
 ·have c:=of_decide_eq_false c
  have hke:k=its.length:=by omega
  rw[hin,hke,List.drop_length]
  simp[inF]
end Go.Proofs.YtdllbdlnmjngcaaGreat.T
