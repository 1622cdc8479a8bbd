/- A part of the proof of the law that the last of these texts states, for every input; no conditions. -/
import Derived.Test.YtmgfoalfimpkjaaGreatMrC
set_option linter.unusedVariables false
set_option linter.unusedSimpArgs false
open Go.IntKind renaming wrap->a0z,i64->a1z,u64->a6z,i32->adz,bits->agz,u8->aiz
open List renaming length->a2z,set->a3z,take->a7z,drop->a8z,getElem?_eq_getElem->aez,mem_append->ahz,mem_cons->ajz,append_nil->akz,all_eq_true->amz,contains_iff_mem->anz,replicate->aoz,map->aqz
open ByteArray renaming size->a4z,extract->a5z
open UInt8 renaming toNat->a9z
open Int renaming toNat->aaz,tmod->abz,tdiv->alz
open Go.Utf8 renaming encode->acz
open Bool renaming and_eq_true->afz
open Nat renaming zero_le->apz
set_option maxRecDepth 100000
namespace Go.Proofs.YtmgfoalfimpkjaaGreat
namespace AM
open Go
open Go.Proofs.Tryz renaming prog->pg
attribute [local irreducible] vC
abbrev LL:=List (List Da)
abbrev r3 (a b:Int) (c:List (List Da)):List Da:=[.int .i64 a,.int .i64 b,.sl c]
abbrev r6 (a b:Int) (c:List (List Da)) (d e:Int) (f:List (List Da)):List Da:=[.int .i64 a,.int .i64 b,.sl c,.int .i64 d,.int .i64 e,.sl f]
abbrev r7 (p:Bool) (a b:Int) (c:List (List Da)) (d e:Int) (f:List (List Da)):List Da:=[.bool p,.int .i64 a,.int .i64 b,.sl c,.int .i64 d,.int .i64 e,.sl f]
abbrev g3 (a b:Int) (k:Nat):AV:=.agg [.d (.int .i64 a),.d (.int .i64 b),.ol k]
abbrev g7 (p:Bool) (a b:Int) (k:Nat) (d e:Int) (l:Nat):AV:=.agg [.d (.bool p),.d (.int .i64 a),.d (.int .i64 b),.ol k,.d (.int .i64 d),.d (.int .i64 e),.ol l]
abbrev o0_ (a:LL) (b:Int) (c:Bool) (d:LL) (e:LL):List (Nat×Ob):=[(2000,.var [.d (.sl a),.d (.int .i64 b),.d (.bool c),.ol 2001,.ol 2002]),(2001,.lst 104 3 d),(2002,.lst 29 1 e)]
abbrev o1_ (a:LL) (b:Int) (c:Bool) (d:LL) (e:LL):List (Nat×Ob):=[(2000,.var [.d (.sl a),.d (.int .i64 b),.d (.bool c),.ol 0,.ol 1]),(0,.lst 104 3 d),(1,.lst 29 1 e)]
abbrev o2_ (a:LL) (b:Int) (c:Bool) (d:LL):List (Nat×Ob):=[(2000,.var [.d (.sl a),.d (.int .i64 b),.ol 2001,.d (.bool c)]),(2001,.tr 104 3 d)]
abbrev o3_ (a:LL) (b:Int) (c:Bool) (d:LL):List (Nat×Ob):=[(2000,.var [.d (.sl a),.d (.int .i64 b),.ol 0,.d (.bool c)]),(0,.tr 104 3 d)]
abbrev o4_ (a:LL) (b:LL) (c:Int) (d:Bool) (e:LL):List (Nat×Ob):=[(2000,.tr 29 1 a),(2001,.var [.op 2002 0]),(2002,.var [.d (.sl b),.d (.int .i64 c),.ol 0,.d (.bool d)]),(0,.tr 104 3 e)]
abbrev o5_ (a:LL) (b:Int) (c:Bool) (d:LL) (e:LL):List (Nat×Ob):=[(2000,(.var [(.d (.sl a)),(.d (.int .i64 b)),(.d (.bool c)),(.ol 2001),(.ol 2002)])),(2001,(.lst 104 3 d)),(2002,(.lst 29 1 e))]
abbrev o6_ (a:LL) (b:Int) (c:Bool) (d:LL):List (Nat×Ob):=[(2000,(.var [(.d (.sl a)),(.d (.int .i64 b)),(.ol 2001),(.d (.bool c))])),(2001,(.tr 104 3 d))]
def CLk (n:Nat) (E:Env) (h:b4q) (b:Code) (p:List Nat) (R:St->Prop) (s:St):Prop:=CL n pg (subC b p) (kont pg E h n b p R (a81q R)).1 (kont pg E h n b p R (a81q R)).2 s
def a2yq:b4q:=⟨[],[]⟩
theorem a29q {p:ByteArray} {r:AV} {O:List (Nat×Ob)} (h:ifB (decide ((1048576:Int)<(p.size:Int)))
 (B true=r/\[]=O)
 (∃xs xs1 b,XC pg 34 [T p] [] (.tup [L xs,L xs1,B b]) []/\∃xs2 xs3 b1,XC pg 33 [T p] [] (.tup [.one (.ol 0),.one (.ol 1),B b1]) [(0,.tr 104 3 xs2),(1,.tr 29 1 xs3)]/\∃b2,XC pg 40 [L xs2,L xs] [] (B b2) []/\ifB (!b2)
 (B false=r/\[]=O)
 (∃b3,XC pg 41 [L xs3,L xs1] [] (B b3) []/\ifB (!b3)
 (B false=r/\[]=O)
 (ifB (decide (b1≠b))
 (B false=r/\[]=O)
 (∃n xs4,XC pg 42 [.one (.ol 2000),Z 1] [(2000,.mt 104 3 xs2)] (Z n) [(2000,.mt 104 3 xs4)]/\∃n1 xs5,XC pg 43 [.one (.ol 2000),Z n] [(2000,.mt 29 1 xs3)] (Z n1) [(2000,.mt 29 1 xs5)]/\∃n2,XC pg 44 [L xs4,Z 1] [] (Z n2) []/\ifB (decide (n2<0))
 (B false=r/\[]=O)
 (∃n3,XC pg 45 [L xs5,Z n2] [] (Z n3) []/\ifB (decide (n3<0))
 (B false=r/\[]=O)
 (ifB (decide (n3≠n1))
 (B false=r/\[]=O)
 (∃xs6 xs7 b4,XC pg 33 [T p] [] (.tup [.one (.ol 0),.one (.ol 1),B b4]) [(0,.tr 104 3 xs6),(1,.tr 29 1 xs7)]/\∃b5,XC pg 40 [L xs6,L xs] [] (B b5) []/\ifB (!b5)
 (B false=r/\[]=O)
 (∃b6,XC pg 41 [L xs7,L xs1] [] (B b6) []/\ifB (!b6)
 (B false=r/\[]=O)
 (ifB (decide (b4≠b))
 (B false=r/\[]=O)
 (∃n4,XC pg 44 [L xs4,Z 1] [] (Z n4) []/\ifB (decide (n4<0))
 (B false=r/\[]=O)
 (∃n5,XC pg 45 [L xs5,Z n4] [] (Z n5) []/\ifB (decide (n5<0))
 (B false=r/\[]=O)
 (ifB (decide (n5≠n1))
 (B false=r/\[]=O)
 (B true=r/\[]=O)))))))))))))):XC pg 5 [.one (.d (.str p))] [] r O :=
 c1q (E:=envL) (hs:=a2yq) (c:=(a2q Tryz.f5)) (n:=97) (res:=[.tmp 2]) (rs:=.c .b) (ks:=[]) (dir:=[]) agiq a5q rfl Tryz.func5 (by kernel_rfl) (by kernel_rfl) (by kernel_rfl) (by kernel_rfl) (a4q (by kernel_rfl) h)
def a2cq:b4q:=⟨[],[]⟩
theorem a20q {a:Bool} {a1 a2:Int} {a3:LL} {a4 a5:Int} {a6:LL} {b:Bool} {b1 b2:Int} {b3:LL} {b4 b5:Int} {b6:LL} {r:AV} {O:List (Nat×Ob)} (h:ifB (!a)
 (ifB b
 ((Z (-1:Int))=r/\[]=O)
 (ifB a
 (ifB (!b)
 (Z 1=r/\[]=O)
 (∃n,XC pg 112 [.dat (r3 a1 a2 a3),.dat (r3 b1 b2 b3)] [] (Z n) []/\ifB (decide (n≠0))
 (Z n=r/\[]=O)
 (∃n1,XC pg 112 [.dat (r3 a4 a5 a6),.dat (r3 b4 b5 b6)] [] (Z n1) []/\Z n1=r/\[]=O)))
 (∃n2,XC pg 112 [.dat (r3 a1 a2 a3),.dat (r3 b1 b2 b3)] [] (Z n2) []/\ifB (decide (n2≠0))
 (Z n2=r/\[]=O)
 (∃n3,XC pg 112 [.dat (r3 a4 a5 a6),.dat (r3 b4 b5 b6)] [] (Z n3) []/\Z n3=r/\[]=O))))
 (ifB a
 (ifB (!b)
 (Z 1=r/\[]=O)
 (∃n4,XC pg 112 [.dat (r3 a1 a2 a3),.dat (r3 b1 b2 b3)] [] (Z n4) []/\ifB (decide (n4≠0))
 (Z n4=r/\[]=O)
 (∃n5,XC pg 112 [.dat (r3 a4 a5 a6),.dat (r3 b4 b5 b6)] [] (Z n5) []/\Z n5=r/\[]=O)))
 (∃n6,XC pg 112 [.dat (r3 a1 a2 a3),.dat (r3 b1 b2 b3)] [] (Z n6) []/\ifB (decide (n6≠0))
 (Z n6=r/\[]=O)
 (∃n7,XC pg 112 [.dat (r3 a4 a5 a6),.dat (r3 b4 b5 b6)] [] (Z n7) []/\Z n7=r/\[]=O)))):XC pg 54 [.dat [.bool a,.int .i64 a1,.int .i64 a2,.sl a3,.int .i64 a4,.int .i64 a5,.sl a6],.dat [.bool b,.int .i64 b1,.int .i64 b2,.sl b3,.int .i64 b4,.int .i64 b5,.sl b6]] [] r O :=
 c1q (E:=env) (hs:=a2cq) (c:=(a2q Tryz.f54)) (n:=35) (res:=[.tmp 4]) (rs:=.c (.i .i64)) (ks:=[]) (dir:=[]) envOk a5q rfl Tryz.func54 (by kernel_rfl) (by kernel_rfl) (by kernel_rfl) (by kernel_rfl) (a4q (by kernel_rfl) h)
def a62q:b4q:=⟨[],[]⟩
theorem a4Sq {a:Bool} {a1 a2:Int} {a3:LL} {a4 a5:Int} {a6:LL} {b:Bool} {b1 b2:Int} {b3:LL} {b4 b5:Int} {b6:LL} {r:AV} {O:List (Nat×Ob)} (h:∃n,XC pg 54 [.dat (r7 a a1 a2 a3 a4 a5 a6),.dat (r7 b b1 b2 b3 b4 b5 b6)] [] (Z n) []/\(B (decide (n=0)))=r/\[]=O):XC pg 56 [.dat [.bool a,.int .i64 a1,.int .i64 a2,.sl a3,.int .i64 a4,.int .i64 a5,.sl a6],.dat [.bool b,.int .i64 b1,.int .i64 b2,.sl b3,.int .i64 b4,.int .i64 b5,.sl b6]] [] r O :=
 c1q (E:=env) (hs:=a62q) (c:=(a2q Tryz.f56)) (n:=9) (res:=[.tmp 4]) (rs:=.c .b) (ks:=[]) (dir:=[]) envOk a5q rfl Tryz.func56 (by kernel_rfl) (by kernel_rfl) (by kernel_rfl) (by kernel_rfl) (a4q (by kernel_rfl) h)
def y6q:b4q:=⟨[(2,⟨[2,3,26,27,28],[],[],[],[],[],[]⟩),(10,⟨[2,3,47,48],[],[],[],[],[],[]⟩)],[]⟩
def D2q (r:AV) (O:List (Nat×Ob)) (s27 s28:Int) (s2 s21:Int) (s22:LL) (s3 s31:Int) (s32 s26:LL):Prop:=CLk 66 env y6q (a2q Tryz.f112) [1,0,1,0,0] (e0q env [.tmp 4] (.c (.i .i64)) [] [] r O) ⟨[(2,(.one (.op 1900 0))),(3,(.one (.op 1901 0))),(26,(.one (.ol 1902))),(27,(Z s27)),(28,(Z s28))],[(1900,(.var [(.d (.int .i64 s2)),(.d (.int .i64 s21)),(.d (.sl s22))])),(1901,(.var [(.d (.int .i64 s3)),(.d (.int .i64 s31)),(.d (.sl s32))])),(1902,(.tr 177 2 s26))]⟩
def v8q (r:AV) (O:List (Nat×Ob)) (s47 s48:Int) (s2 s21:Int) (s22:LL) (s3 s31:Int) (s32:LL):Prop:=CLk 66 env y6q (a2q Tryz.f112) [1,1,0,1,0,0] (e0q env [.tmp 4] (.c (.i .i64)) [] [] r O) ⟨[(2,(.one (.op 1900 0))),(3,(.one (.op 1901 0))),(47,(Z s47)),(48,(Z s48))],[(1900,(.var [(.d (.int .i64 s2)),(.d (.int .i64 s21)),(.d (.sl s22))])),(1901,(.var [(.d (.int .i64 s3)),(.d (.int .i64 s31)),(.d (.sl s32))]))]⟩
theorem x0q {r:AV} {O:List (Nat×Ob)} {s27 s28 s2 s21:Int} {s22:LL} {s3 s31:Int} {s32 s26:LL} (h:ifB (decide (s28<s27))
 (∃m:Nat,s28=m/\Do (m<s26.length)/\∃n:Nat,(m*2)=(n*2)/\∃n1 n2,(s26[n]?)=some [.int .i64 n1,.int .i64 n2]/\ifB (decide (n1<n2))
 ((Z (-1:Int))=r/\[]=O)
 (ifB (decide (n2<n1))
 (Z 1=r/\[]=O)
 (D2q r O s27 (a0z .i64 (s28+1)) s2 s21 s22 s3 s31 s32 s26)))
 (v8q r O (s22.length:Int) (0:Int) s2 s21 s22 s3 s31 s32)):D2q r O s27 s28 s2 s21 s22 s3 s31 s32 s26:=by
 unfold D2q CLk
 refine c6q (E:=env) (hs:=y6q) envOk a5q ?_
 exact a4q (by kernel_rfl) h
theorem N2q {r:AV} {O:List (Nat×Ob)} {s47 s48 s2 s21:Int} {s22:LL} {s3 s31:Int} {s32:LL} (h:ifB (decide (s48<s47))
 (∃m:Nat,s48=m/\∃n n1 xs,(s22[m]?)=some (r3 n n1 xs)/\∃m1:Nat,s48=m1/\∃n2 n3 xs1,(s32[m1]?)=some (r3 n2 n3 xs1)/\∃n4,XC pg 112 [.dat (r3 n n1 xs),.dat (r3 n2 n3 xs1)] [] (Z n4) []/\ifB (decide (n4≠0))
 (Z n4=r/\[]=O)
 (v8q r O s47 (a0z .i64 (s48+1)) s2 s21 s22 s3 s31 s32))
 (Z 0=r/\[]=O)):v8q r O s47 s48 s2 s21 s22 s3 s31 s32:=by
 unfold v8q CLk
 refine c6q (E:=env) (hs:=y6q) envOk a5q ?_
 exact a4q (by kernel_rfl) h
theorem a54q {p p1:Int} {p2:LL} {p_1 p_11:Int} {p_12:LL} {r:AV} {O:List (Nat×Ob)} (h:D2q r O (↑(a2z [[Da.int a1z p,Da.int a1z p_1],[Da.int a1z p1,Da.int a1z p_11],[Da.int a1z (p2.length:Int),Da.int a1z (p_12.length:Int)]]):Int) (0:Int) p p1 p2 p_1 p_11 p_12 [[.int .i64 p,.int .i64 p_1],[.int .i64 p1,.int .i64 p_11],[.int .i64 (p2.length:Int),.int .i64 (p_12.length:Int)]]):XC pg 112 [.dat [.int .i64 p,.int .i64 p1,.sl p2],.dat [.int .i64 p_1,.int .i64 p_11,.sl p_12]] [] r O :=
 c1q (E:=env) (hs:=y6q) (c:=(a2q Tryz.f112)) (n:=66) (res:=[.tmp 4]) (rs:=.c (.i .i64)) (ks:=[]) (dir:=[]) envOk a5q rfl Tryz.func112 (by kernel_rfl) (by kernel_rfl) (by kernel_rfl) (by kernel_rfl) (a4q (by kernel_rfl) h)
def G6q:b4q:=⟨[(4,⟨[5,8],[],[],[(8,(4,(29,1)))],[],[8],[]⟩),(10,⟨[5,8,9,10],[8],[],[],[],[9],[]⟩)],[]⟩
def A1q (r:AV) (O:List (Nat×Ob)) (s5 s8:LL) (s81:Int) (s82:Bool) (s83 s84:LL):Prop:=CLk 108 env G6q (a2q Tryz.f34) [1,1,1,1,0,0,0] (e0q env [.tmp 2,.tmp 3,.tmp 4] (.t [.c .l,.c .l,.c .b]) [] [] r O) ⟨[(5,(.one (.ol 1900))),(8,(.one (.op 1901 0)))],[(1900,(.tr 29 1 s5)),(1901,(.var [(.d (.sl s8)),(.d (.int .i64 s81)),(.d (.bool s82)),(.ol 1902),(.ol 1903)])),(1902,(.lst 104 3 s83)),(1903,(.lst 29 1 s84))]⟩
def t1q (r:AV) (O:List (Nat×Ob)) (s10:Int) (s5 s8:LL) (s81:Int) (s82:Bool) (s83 s84 s9:LL):Prop:=CLk 108 env G6q (a2q Tryz.f34) [1,1,1,1,1,1,1,0,1,0,0] (e0q env [.tmp 2,.tmp 3,.tmp 4] (.t [.c .l,.c .l,.c .b]) [] [] r O) ⟨[(5,(.one (.ol 1900))),(8,(.one (.op 1901 0))),(9,(.one (.ol 1902))),(10,(Z s10))],[(1900,(.tr 29 1 s5)),(1901,(.var [(.d (.sl s8)),(.d (.int .i64 s81)),(.d (.bool s82)),(.d (.sl s83)),(.d (.sl s84))])),(1902,(.lst 29 1 s9))]⟩
theorem a04q {r:AV} {O:List (Nat×Ob)} {s5 s8:LL} {s81:Int} {s82:Bool} {s83 s84:LL} (h:ifB s82
 (ifB (decide (s81<(s8.length:Int)))
 (∃xs m b xs1 xs2,XC pg 93 [.one (.op 2000 0)] (o0_ s8 s81 s82 s83 s84) (.tup []) (o1_ xs m b xs1 xs2)/\A1q r O s5 xs m b xs1 xs2)
 (ifB (!s82)
 ((.tup [L [],L s5,B false])=r/\[]=O)
 (∃b1,XC pg 94 [L s83] [] (B b1) []/\ifB (!b1)
 ((.tup [L [],L s5,B false])=r/\[]=O)
 (∃b2,XC pg 95 [Z (s84.length:Int),Z 1,Z 20] [] (B b2) []/\ifB (!b2)
 ((.tup [L [],L s5,B false])=r/\[]=O)
 (t1q r O (0:Int) s5 s8 s81 s82 s83 s84 [])))))
 (ifB (!s82)
 ((.tup [L [],L s5,B false])=r/\[]=O)
 (∃b3,XC pg 94 [L s83] [] (B b3) []/\ifB (!b3)
 ((.tup [L [],L s5,B false])=r/\[]=O)
 (∃b4,XC pg 95 [Z (s84.length:Int),Z 1,Z 20] [] (B b4) []/\ifB (!b4)
 ((.tup [L [],L s5,B false])=r/\[]=O)
 (t1q r O (0:Int) s5 s8 s81 s82 s83 s84 []))))):A1q r O s5 s8 s81 s82 s83 s84:=by
 unfold A1q CLk
 refine c6q (E:=env) (hs:=G6q) envOk a5q ?_
 exact a4q (by kernel_rfl) h
theorem X8q {r:AV} {O:List (Nat×Ob)} {s10:Int} {s5 s8:LL} {s81:Int} {s82:Bool} {s83 s84 s9:LL} (h:ifB (decide (s10<(s84.length:Int)))
 (∃m:Nat,s10=m/\∃xs,(s84[m]?)=some [.sl xs]/\∃xs1,XC pg 18 [L s83,L xs] [] (.dat [.sl xs1]) []/\∃b,XC pg 28 [L s83,.dat [.sl xs1]] [] (B b) []/\ifB (!b)
 ((.tup [L [],L s5,B false])=r/\[]=O)
 (Do ((s9.length+a2z [[Da.sl xs1]])*24<=140737488355328)/\t1q r O (a0z .i64 (s10+1)) s5 s8 s81 s82 s83 s84 (s9++[[Da.sl xs1]])))
 ((.tup [L s83,L s9,B true])=r/\[]=O)):t1q r O s10 s5 s8 s81 s82 s83 s84 s9:=by
 unfold t1q CLk
 refine c6q (E:=env) (hs:=G6q) envOk a5q ?_
 exact a4q (by kernel_rfl) h
theorem a90q {p:ByteArray} {r:AV} {O:List (Nat×Ob)} (h:∃xs n,XC pg 92 [T p] [] (.tup [L xs,Z n]) []/\A1q r O [] xs (0:Int) (decide (n<0)) [[.str ⟨#[116,116]⟩,.int .i64 0,.bool false]] []):XC pg 34 [(T p)] [] r O :=
 c1q (E:=env) (hs:=G6q) (c:=(a2q Tryz.f34)) (n:=108) (res:=[.tmp 2,.tmp 3,.tmp 4]) (rs:=.t [.c .l,.c .l,.c .b]) (ks:=[]) (dir:=[]) envOk a5q rfl Tryz.func34 (by kernel_rfl) (by kernel_rfl) (by kernel_rfl) (by kernel_rfl) (a4q (by kernel_rfl) h)
def y2q:b4q:=⟨[(4,⟨[5,6,7,8],[],[],[],[],[8],[]⟩),(8,⟨[5,6,7,8,9],[],[],[],[],[9],[]⟩),(18,⟨[7,11,91,92,93],[],[],[],[],[],[]⟩)],[]⟩
def n2q (r:AV) (O:List (Nat×Ob)) (s5:LL) (s6:Int) (s8 s7:LL) (s71:Int) (s72:Bool) (s73:LL):Prop:=CLk 115 env y2q (a2q Tryz.f33) [1,1,1,1,0,0,0] (e0q env [.tmp 2,.tmp 3,.tmp 4] (.t [.o 104 3,.o 29 1,.c .b]) [] [] r O) ⟨[(5,(L s5)),(6,(Z s6)),(7,(.one (.op 1900 0))),(8,(.one (.ol 1901)))],[(1900,(.var [(.op 1902 0)])),(1901,(.lst 25 1 s8)),(1902,(.var [(.d (.sl s7)),(.d (.int .i64 s71)),(.ol 1903),(.d (.bool s72))])),(1903,(.tr 104 3 s73))]⟩
def E5q (r:AV) (O:List (Nat×Ob)) (s5:LL) (s6:Int) (s8 s9 s7:LL) (s71:Int) (s72:Bool) (s73:LL):Prop:=CLk 115 env y2q (a2q Tryz.f33) [1,1,1,1,0,0,0,1,0,0,1,1,1,0,0,0] (e0q env [.tmp 2,.tmp 3,.tmp 4] (.t [.o 104 3,.o 29 1,.c .b]) [] [] r O) ⟨[(5,(L s5)),(6,(Z s6)),(7,(.one (.op 1900 0))),(8,(.one (.ol 1901))),(9,(.one (.ol 1902)))],[(1900,(.var [(.op 1903 0)])),(1901,(.lst 25 1 s8)),(1902,(.lst 54 7 s9)),(1903,(.var [(.d (.sl s7)),(.d (.int .i64 s71)),(.ol 1904),(.d (.bool s72))])),(1904,(.tr 104 3 s73))]⟩
def q7q (r:AV) (O:List (Nat×Ob)) (s92 s93:Int) (s11 s91 s7:LL) (s71:Int) (s72:Bool) (s73:LL):Prop:=CLk 115 env y2q (a2q Tryz.f33) [1,1,1,1,1,1,1,0,1,0,0] (e0q env [.tmp 2,.tmp 3,.tmp 4] (.t [.o 104 3,.o 29 1,.c .b]) [] [] r O) ⟨[(7,(.one (.op 1900 0))),(11,(.one (.ol 1901))),(91,(.one (.ol 1902))),(92,(Z s92)),(93,(Z s93))],[(1900,(.var [(.op 1903 0)])),(1901,(.tr 29 1 s11)),(1902,(.lst 25 1 s91)),(1903,(.var [(.d (.sl s7)),(.d (.int .i64 s71)),(.ol 1904),(.d (.bool s72))])),(1904,(.tr 104 3 s73))]⟩
theorem L9q {r:AV} {O:List (Nat×Ob)} {s5:LL} {s6:Int} {s8 s7:LL} {s71:Int} {s72:Bool} {s73:LL} (h:ifB (decide (s6<0))
 (ifB (!s72)
 (ifB (decide (s71<(s5.length:Int)))
 (∃b xs m xs1 b1,XC pg 85 [.one (.op 2000 0),T ⟨#[97,99]⟩] (o2_ s7 s71 s72 s73) (B b) (o3_ xs m b1 xs1)/\ifB b
 (∃xs2 m1 xs3 b2,XC pg 86 [.one (.op 2000 0)] (o2_ xs m b1 xs1) (.tup []) (o3_ xs2 m1 b2 xs3)/\∃xs4 m2 xs5 b3,XC pg 88 [.one (.op 2000 0),T ⟨#[46]⟩] (o2_ xs2 m1 b2 xs3) (.tup []) (o3_ xs4 m2 b3 xs5)/\n2q r O s5 s6 s8 xs4 m2 b3 xs5)
 (E5q r O s5 s6 s8 [] xs m b1 xs1))
 (ifB (decide ((0:Int)<=s6))
 ((.tup [.one (.ol 0),.one (.ol 1),B false])=r/\[(0,.tr 104 3 []),(1,.tr 29 1 [])]=O)
 (ifB s72
 ((.tup [.one (.ol 0),.one (.ol 1),B false])=r/\[(0,.tr 104 3 []),(1,.tr 29 1 [])]=O)
 (∃b4,XC pg 39 [L s73] [] (B b4) []/\ifB (!b4)
 ((.tup [.one (.ol 0),.one (.ol 1),B false])=r/\[(0,.tr 104 3 []),(1,.tr 29 1 [])]=O)
 (∃b5,XC pg 89 [Z (s8.length:Int),Z 1,Z 20] [] (B b5) []/\ifB (!b5)
 ((.tup [.one (.ol 0),.one (.ol 1),B false])=r/\[(0,.tr 104 3 []),(1,.tr 29 1 [])]=O)
 (q7q r O (s8.length:Int) (0:Int) [] s8 s7 s71 s72 s73))))))
 (ifB (decide ((0:Int)<=s6))
 ((.tup [.one (.ol 0),.one (.ol 1),B false])=r/\[(0,.tr 104 3 []),(1,.tr 29 1 [])]=O)
 (ifB s72
 ((.tup [.one (.ol 0),.one (.ol 1),B false])=r/\[(0,.tr 104 3 []),(1,.tr 29 1 [])]=O)
 (∃b6,XC pg 39 [L s73] [] (B b6) []/\ifB (!b6)
 ((.tup [.one (.ol 0),.one (.ol 1),B false])=r/\[(0,.tr 104 3 []),(1,.tr 29 1 [])]=O)
 (∃b7,XC pg 89 [Z (s8.length:Int),Z 1,Z 20] [] (B b7) []/\ifB (!b7)
 ((.tup [.one (.ol 0),.one (.ol 1),B false])=r/\[(0,.tr 104 3 []),(1,.tr 29 1 [])]=O)
 (q7q r O (s8.length:Int) (0:Int) [] s8 s7 s71 s72 s73))))))
 (ifB (decide ((0:Int)<=s6))
 ((.tup [.one (.ol 0),.one (.ol 1),B false])=r/\[(0,.tr 104 3 []),(1,.tr 29 1 [])]=O)
 (ifB s72
 ((.tup [.one (.ol 0),.one (.ol 1),B false])=r/\[(0,.tr 104 3 []),(1,.tr 29 1 [])]=O)
 (∃b8,XC pg 39 [L s73] [] (B b8) []/\ifB (!b8)
 ((.tup [.one (.ol 0),.one (.ol 1),B false])=r/\[(0,.tr 104 3 []),(1,.tr 29 1 [])]=O)
 (∃b9,XC pg 89 [Z (s8.length:Int),Z 1,Z 20] [] (B b9) []/\ifB (!b9)
 ((.tup [.one (.ol 0),.one (.ol 1),B false])=r/\[(0,.tr 104 3 []),(1,.tr 29 1 [])]=O)
 (q7q r O (s8.length:Int) (0:Int) [] s8 s7 s71 s72 s73)))))):n2q r O s5 s6 s8 s7 s71 s72 s73:=by
 unfold n2q CLk
 refine c6q (E:=env) (hs:=y2q) envOk a5q ?_
 exact a4q (by kernel_rfl) h
theorem a4qq {r:AV} {O:List (Nat×Ob)} {s5:LL} {s6:Int} {s8 s9 s7:LL} {s71:Int} {s72:Bool} {s73:LL} (h:ifB (!s72)
 (∃b n n1 xs n2 n3 xs1 xs2 m xs3 b1,XC pg 87 [.one (.op 2000 0)] (o2_ s7 s71 s72 s73) (.dat (r7 b n n1 xs n2 n3 xs1)) (o3_ xs2 m b1 xs3)/\Do ((s9.length+a2z [(r7 b n n1 xs n2 n3 xs1)])*88<=140737488355328)/\∃b2 xs4 m1 xs5 b3,XC pg 85 [.one (.op 2000 0),T ⟨#[124]⟩] (o2_ xs2 m b1 xs3) (B b2) (o3_ xs4 m1 b3 xs5)/\ifB (!b2)
 (Do ((s8.length+a2z [[Da.sl (s9++[(r7 b n n1 xs n2 n3 xs1)])]])*24<=140737488355328)/\∃xs6 m2 xs7 b4,XC pg 88 [.one (.op 2000 0),T ⟨#[46]⟩] (o2_ xs4 m1 b3 xs5) (.tup []) (o3_ xs6 m2 b4 xs7)/\n2q r O s5 s6 (s8++[[Da.sl (s9++[(r7 b n n1 xs n2 n3 xs1)])]]) xs6 m2 b4 xs7)
 (E5q r O s5 s6 s8 (s9++[(r7 b n n1 xs n2 n3 xs1)]) xs4 m1 b3 xs5))
 (Do ((s8.length+a2z [[Da.sl s9]])*24<=140737488355328)/\∃xs8 m3 xs9 b5,XC pg 88 [.one (.op 2000 0),T ⟨#[46]⟩] (o2_ s7 s71 s72 s73) (.tup []) (o3_ xs8 m3 b5 xs9)/\n2q r O s5 s6 (s8++[[Da.sl s9]]) xs8 m3 b5 xs9)):E5q r O s5 s6 s8 s9 s7 s71 s72 s73:=by
 unfold E5q CLk
 refine c6q (E:=env) (hs:=y2q) envOk a5q ?_
 exact a4q (by kernel_rfl) h
theorem Z3q {r:AV} {O:List (Nat×Ob)} {s92 s93:Int} {s11 s91 s7:LL} {s71:Int} {s72:Bool} {s73:LL} (h:ifB (decide (s93<s92))
 (∃m:Nat,s93=m/\Do (m<s91.length)/\∃n:Nat,(m*1)=(n*1)/\∃xs,(s91[n]?)=some [.sl xs]/\∃xs1,XC pg 8 [L s73,L xs] [] (.agg [.ol 0]) [(0,.tr 54 7 xs1)]/\Do ((s11.length+a2z [[Da.sl xs1]])*24<=140737488355328)/\q7q r O s92 (a0z .i64 (s93+1)) (s11++[[Da.sl xs1]]) s91 s7 s71 s72 s73)
 (∃b xs2 xs3 m1 xs4 b1,XC pg 90 [.one (.ol 2000),.one (.clo 91 [(2001,0)])] [(2000,.tr 29 1 s11),(2001,.var [.op 2002 0]),(2002,.var [.d (.sl s7),.d (.int .i64 s71),.ol 2003,.d (.bool s72)]),(2003,.tr 104 3 s73)] (B b) (o4_ xs2 xs3 m1 b1 xs4)/\ifB b
 ((.tup [.one (.ol 0),.one (.ol 1),B false])=r/\[(0,.tr 104 3 []),(1,.tr 29 1 [])]=O)
 ((.tup [.one (.ol 0),.one (.ol 1),B true])=r/\[(0,.tr 104 3 xs4),(1,.tr 29 1 xs2)]=O))):q7q r O s92 s93 s11 s91 s7 s71 s72 s73:=by
 unfold q7q CLk
 refine c6q (E:=env) (hs:=y2q) envOk a5q ?_
 exact a4q (by kernel_rfl) h
theorem a9kq {p:ByteArray} {r:AV} {O:List (Nat×Ob)} (h:∃xs n,XC pg 84 [T p] [] (.tup [L xs,Z n]) []/\n2q r O xs n [] xs (0:Int) (false) [[.str ⟨#[116,116]⟩,.int .i64 0,.bool false]]):XC pg 33 [(T p)] [] r O :=
 c1q (E:=env) (hs:=y2q) (c:=(a2q Tryz.f33)) (n:=115) (res:=[.tmp 2,.tmp 3,.tmp 4]) (rs:=.t [.o 104 3,.o 29 1,.c .b]) (ks:=[]) (dir:=[]) envOk a5q rfl Tryz.func33 (by kernel_rfl) (by kernel_rfl) (by kernel_rfl) (by kernel_rfl) (a4q (by kernel_rfl) h)
def S1q:b4q:=⟨[(4,⟨[0,1,5],[],[],[],[],[],[]⟩)],[]⟩
def z7q (r:AV) (O:List (Nat×Ob)) (a b:LL) (i:Int):Prop:=CLk 27 env S1q (a2q Tryz.f40) [1,1,0,1,0,0] (e0q env [.tmp 4] (.c .b) [] [] r O) ⟨[(0,(L a)),(1,(L b)),(5,(Z i))],[]⟩
theorem T6q {r:AV} {O:List (Nat×Ob)} {a b:LL} {i:Int} (h:ifB (decide (i<(a.length:Int)))
 (∃m:Nat,i=m/\∃q n b2,(a[m]?)=some [.str q,.int .i64 n,.bool b2]/\∃m1:Nat,i=m1/\∃q1 n1 b3,(b[m1]?)=some [.str q1,.int .i64 n1,.bool b3]/\∃b4,XC pg 100 [.dat [.str q,.int .i64 n,.bool b2],.dat [.str q1,.int .i64 n1,.bool b3]] [] (B b4) []/\ifB (!b4)
 (B false=r/\[]=O)
 (z7q r O a b (a0z .i64 (i+1))))
 (B true=r/\[]=O)):z7q r O a b i:=by
 unfold z7q CLk
 refine c6q (E:=env) (hs:=S1q) envOk a5q ?_
 exact a4q (by kernel_rfl) h
theorem a5zq {a b:LL} {r:AV} {O:List (Nat×Ob)} (h:ifB (decide ((a.length:Int)≠(b.length:Int)))
 (B false=r/\[]=O)
 (z7q r O a b (0:Int))):XC pg 40 [(L a),(L b)] [] r O :=
 c1q (E:=env) (hs:=S1q) (c:=(a2q Tryz.f40)) (n:=27) (res:=[.tmp 4]) (rs:=.c .b) (ks:=[]) (dir:=[]) envOk a5q rfl Tryz.func40 (by kernel_rfl) (by kernel_rfl) (by kernel_rfl) (by kernel_rfl) (a4q (by kernel_rfl) h)
def I2q:b4q:=⟨[(4,⟨[0,1,5],[],[],[],[],[],[]⟩)],[]⟩
def u0q (r:AV) (O:List (Nat×Ob)) (a b:LL) (i:Int):Prop:=CLk 27 env I2q (a2q Tryz.f41) [1,1,0,1,0,0] (e0q env [.tmp 4] (.c .b) [] [] r O) ⟨[(0,(L a)),(1,(L b)),(5,(Z i))],[]⟩
theorem L8q {r:AV} {O:List (Nat×Ob)} {a b:LL} {i:Int} (h:ifB (decide (i<(a.length:Int)))
 (∃m:Nat,i=m/\∃xs,(a[m]?)=some [.sl xs]/\∃m1:Nat,i=m1/\∃xs1,(b[m1]?)=some [.sl xs1]/\∃b2,XC pg 101 [.dat [.sl xs],.dat [.sl xs1]] [] (B b2) []/\ifB (!b2)
 (B false=r/\[]=O)
 (u0q r O a b (a0z .i64 (i+1))))
 (B true=r/\[]=O)):u0q r O a b i:=by
 unfold u0q CLk
 refine c6q (E:=env) (hs:=I2q) envOk a5q ?_
 exact a4q (by kernel_rfl) h
theorem a3pq {a b:LL} {r:AV} {O:List (Nat×Ob)} (h:ifB (decide ((a.length:Int)≠(b.length:Int)))
 (B false=r/\[]=O)
 (u0q r O a b (0:Int))):XC pg 41 [(L a),(L b)] [] r O :=
 c1q (E:=env) (hs:=I2q) (c:=(a2q Tryz.f41)) (n:=27) (res:=[.tmp 4]) (rs:=.c .b) (ks:=[]) (dir:=[]) envOk a5q rfl Tryz.func41 (by kernel_rfl) (by kernel_rfl) (by kernel_rfl) (by kernel_rfl) (a4q (by kernel_rfl) h)
def L7q:b4q:=⟨[(2,⟨[0,1,5],[],[],[],[],[],[]⟩)],[]⟩
def v9q (r:AV) (O:List (Nat×Ob)) (k i:Int) (a:LL):Prop:=CLk 37 env L7q (a2q Tryz.f42) [1,0,1,0,0] (e0q env [.tmp 4] (.c (.i .i64)) [(2000,(false))] [2000] r O) ⟨[(0,(.one (.ol 2000))),(1,(Z k)),(5,(Z i))],[(2000,(.mt 104 3 a))]⟩
theorem N1q {r:AV} {O:List (Nat×Ob)} {k i:Int} {a:LL} (h:ifB (decide (i<(a.length:Int)))
 (∃q,XC pg 102 [Z k] [] (T q) []/\∃m:Nat,i=m/\Do (m<a.length)/\∃m1:Nat,(m*3+0)=(m1*3+0)/\∃q1 n b,(a[m1]?)=some [.str q1,.int .i64 n,.bool b]/\∃m2:Nat,i=m2/\Do (m2<a2z (a3z a m1 ([]++[Da.str q]++[Da.int a1z n,Da.bool b])))/\∃m3:Nat,(m2*3+1)=(m3*3+1)/\∃q2:ByteArray,∃n1:Int,∃b1:Bool,((a3z a m1 ([]++[Da.str q]++[Da.int a1z n,Da.bool b]))[m3]?)=some [.str q2,.int .i64 n1,.bool b1]/\Do ((3:Int)≠(0:Int))/\∃m4:Nat,i=m4/\Do (m4<a2z (a3z (a3z a m1 ([]++[Da.str q]++[Da.int a1z n,Da.bool b])) m3 ([Da.str q2]++[Da.int a1z (a0z .i64 (k+1))]++[Da.bool b1])))/\∃m5:Nat,(m4*3+2)=(m5*3+2)/\∃q3:ByteArray,∃n2:Int,∃b2:Bool,((a3z (a3z a m1 ([]++[Da.str q]++[Da.int a1z n,Da.bool b])) m3 ([Da.str q2]++[Da.int a1z (a0z .i64 (k+1))]++[Da.bool b1]))[m5]?)=some [.str q3,.int .i64 n2,.bool b2]/\v9q r O (a0z .i64 (a0z .i64 (a0z .i64 (k+1)+1)+1)) (a0z .i64 (i+1)) (a3z (a3z (a3z a m1 ([]++[Da.str q]++[Da.int a1z n,Da.bool b])) m3 ([Da.str q2]++[Da.int a1z (a0z .i64 (k+1))]++[Da.bool b1])) m5 ([Da.str q3,Da.int a1z n2]++[Da.bool (decide (abz (a0z .i64 (a0z .i64 (k+1)+1)) (3:Int)=(0:Int)))]++[])))
 (Z k=r/\[(2000,.mt 104 3 a)]=O)):v9q r O k i a:=by
 unfold v9q CLk
 refine c6q (E:=env) (hs:=L7q) envOk a5q ?_
 exact a4q (by kernel_rfl) h
theorem a4gq {k:Int} {o2000:LL} {r:AV} {O:List (Nat×Ob)} (h:v9q r O k (0:Int) o2000):XC pg 42 [(.one (.ol 2000)),(Z k)] [(2000,(.mt 104 3 o2000))] r O :=
 c1q (E:=env) (hs:=L7q) (c:=(a2q Tryz.f42)) (n:=37) (res:=[.tmp 4]) (rs:=.c (.i .i64)) (ks:=[(2000,(false))]) (dir:=[2000]) envOk a5q rfl Tryz.func42 (by kernel_rfl) (by kernel_rfl) (by kernel_rfl) (by kernel_rfl) (a4q (by kernel_rfl) h)
def E8q:b4q:=⟨[(2,⟨[0,1,5],[],[],[],[],[],[]⟩)],[]⟩
def r4q (r:AV) (O:List (Nat×Ob)) (k i:Int) (a:LL):Prop:=CLk 20 env E8q (a2q Tryz.f43) [1,0,1,0,0] (e0q env [.tmp 4] (.c (.i .i64)) [(2000,(false))] [2000] r O) ⟨[(0,(.one (.ol 2000))),(1,(Z k)),(5,(Z i))],[(2000,(.mt 29 1 a))]⟩
theorem G8q {r:AV} {O:List (Nat×Ob)} {k i:Int} {a:LL} (h:ifB (decide (i<(a.length:Int)))
 (∃m:Nat,i=m/\Do (m<a.length)/\∃m1:Nat,(m*1+0)=(m1*1+0)/\∃xs,(a[m1]?)=some [.sl xs]/\∀(a1:Option Addr),∀(l:Nat),∀(r1:Nat),(a1=a1/\(l)=(l)/\(r1)=(r1))/\∃xs1,(a[m1]?)=some [.sl xs1]/\Do (∀(y:List Da),y∈xs1->y.length=Prod.fst ((7:Nat),(88:Nat),[At.d (Da.bool false),At.d (Da.int a1z 0),At.d (Da.int a1z 0),At.e0,At.d (Da.int a1z 0),At.d (Da.int a1z 0),At.e0]))/\∃ys1 n,XC pg 103 [.one (.ol 2000),Z k] [(2000,.mt 54 7 xs1)] (Z n) [(2000,.mt 54 7 ys1)]/\r4q r O n (a0z .i64 (i+1)) (a3z a m1 ([]++[Da.sl ys1]++[])))
 (Z k=r/\[(2000,.mt 29 1 a)]=O)):r4q r O k i a:=by
 unfold r4q CLk
 refine c6q (E:=env) (hs:=E8q) envOk a5q ?_
 exact a4q (by kernel_rfl) h
theorem a1Yq {k:Int} {o2000:LL} {r:AV} {O:List (Nat×Ob)} (h:r4q r O k (0:Int) o2000):XC pg 43 [(.one (.ol 2000)),(Z k)] [(2000,(.mt 29 1 o2000))] r O :=
 c1q (E:=env) (hs:=E8q) (c:=(a2q Tryz.f43)) (n:=20) (res:=[.tmp 4]) (rs:=.c (.i .i64)) (ks:=[(2000,(false))]) (dir:=[2000]) envOk a5q rfl Tryz.func43 (by kernel_rfl) (by kernel_rfl) (by kernel_rfl) (by kernel_rfl) (a4q (by kernel_rfl) h)
def L1q:b4q:=⟨[(2,⟨[0,1,5],[],[],[],[],[],[]⟩)],[]⟩
def v0q (r:AV) (O:List (Nat×Ob)) (a:LL) (k i:Int):Prop:=CLk 43 env L1q (a2q Tryz.f44) [1,0,1,0,0] (e0q env [.tmp 4] (.c (.i .i64)) [] [] r O) ⟨[(0,(L a)),(1,(Z k)),(5,(Z i))],[]⟩
theorem N3q {r:AV} {O:List (Nat×Ob)} {a:LL} {k i:Int} (h:ifB (decide (i<(a.length:Int)))
 (∃m:Nat,i=m/\∃q n b,(a[m]?)=some [.str q,.int .i64 n,.bool b]/\∃q1,XC pg 102 [Z k] [] (T q1) []/\ifB (decide (q≠q1))
 ((Z (-1:Int))=r/\[]=O)
 (∃m1:Nat,i=m1/\∃q2 n1 b1,(a[m1]?)=some [.str q2,.int .i64 n1,.bool b1]/\ifB (decide (n1≠a0z .i64 (k+1)))
 ((Z (-1:Int))=r/\[]=O)
 (∃m2:Nat,i=m2/\∃q3 n2 b2,(a[m2]?)=some [.str q3,.int .i64 n2,.bool b2]/\Do ((3:Int)≠(0:Int))/\ifB (decide (b2≠decide (abz (a0z .i64 (a0z .i64 (k+1)+1)) (3:Int)=(0:Int))))
 ((Z (-1:Int))=r/\[]=O)
 (v0q r O a (a0z .i64 (a0z .i64 (a0z .i64 (k+1)+1)+1)) (a0z .i64 (i+1))))))
 (Z k=r/\[]=O)):v0q r O a k i:=by
 unfold v0q CLk
 refine c6q (E:=env) (hs:=L1q) envOk a5q ?_
 exact a4q (by kernel_rfl) h
theorem a4dq {a:LL} {k:Int} {r:AV} {O:List (Nat×Ob)} (h:v0q r O a k (0:Int)):XC pg 44 [(L a),(Z k)] [] r O :=
 c1q (E:=env) (hs:=L1q) (c:=(a2q Tryz.f44)) (n:=43) (res:=[.tmp 4]) (rs:=.c (.i .i64)) (ks:=[]) (dir:=[]) envOk a5q rfl Tryz.func44 (by kernel_rfl) (by kernel_rfl) (by kernel_rfl) (by kernel_rfl) (a4q (by kernel_rfl) h)
def F8q:b4q:=⟨[(2,⟨[0,1,5],[],[],[],[],[],[]⟩)],[]⟩
def r3q (r:AV) (O:List (Nat×Ob)) (a:LL) (k i:Int):Prop:=CLk 22 env F8q (a2q Tryz.f45) [1,0,1,0,0] (e0q env [.tmp 4] (.c (.i .i64)) [] [] r O) ⟨[(0,(L a)),(1,(Z k)),(5,(Z i))],[]⟩
theorem H0q {r:AV} {O:List (Nat×Ob)} {a:LL} {k i:Int} (h:ifB (decide (i<(a.length:Int)))
 (∃m:Nat,i=m/\∃xs,(a[m]?)=some [.sl xs]/\∃n,XC pg 104 [L xs,Z k] [] (Z n) []/\ifB (decide (n<0))
 ((Z (-1:Int))=r/\[]=O)
 (r3q r O a n (a0z .i64 (i+1))))
 (Z k=r/\[]=O)):r3q r O a k i:=by
 unfold r3q CLk
 refine c6q (E:=env) (hs:=F8q) envOk a5q ?_
 exact a4q (by kernel_rfl) h
theorem a26q {a:LL} {k:Int} {r:AV} {O:List (Nat×Ob)} (h:r3q r O a k (0:Int)):XC pg 45 [(L a),(Z k)] [] r O :=
 c1q (E:=env) (hs:=F8q) (c:=(a2q Tryz.f45)) (n:=22) (res:=[.tmp 4]) (rs:=.c (.i .i64)) (ks:=[]) (dir:=[]) envOk a5q rfl Tryz.func45 (by kernel_rfl) (by kernel_rfl) (by kernel_rfl) (by kernel_rfl) (a4q (by kernel_rfl) h)
def E6q:b4q:=⟨[(6,⟨[0,4,5,6],[],[],[],[],[],[]⟩),(17,⟨[0,4,5,6,8],[],[],[],[],[],[]⟩)],[]⟩
def f6q (r:AV) (O:List (Nat×Ob)) (s0:ByteArray) (s6:Int) (s4 s5:LL):Prop:=CLk 117 env E6q (a2q Tryz.f92) [1,1,1,1,0,1,0,0] (e0q env [.tmp 2,.tmp 3] (.t [.c .l,.c (.i .i64)]) [] [] r O) ⟨[(0,(T s0)),(4,(.one (.ol 1900))),(5,(.one (.ol 1901))),(6,(Z s6))],[(1900,(.tr 9 1 s4)),(1901,(.tr 9 1 s5))]⟩
def p4q (r:AV) (O:List (Nat×Ob)) (s0:ByteArray) (s6 s8:Int) (s4 s5:LL):Prop:=CLk 117 env E6q (a2q Tryz.f92) [1,1,1,1,0,1,0,0,1,0,1,1,1,0,0,0] (e0q env [.tmp 2,.tmp 3] (.t [.c .l,.c (.i .i64)]) [] [] r O) ⟨[(0,(T s0)),(4,(.one (.ol 1900))),(5,(.one (.ol 1901))),(6,(Z s6)),(8,(Z s8))],[(1900,(.tr 9 1 s4)),(1901,(.tr 9 1 s5))]⟩
theorem a3Nq {r:AV} {O:List (Nat×Ob)} {s0:ByteArray} {s6:Int} {s4 s5:LL} (h:ifB (decide (s6<(s0.size:Int)))
 (∃n:Nat,∃b:UInt8,s6=n/\(s0[n]?)=some b/\ifB (decide ((↑(a9z b):Int)=32))
 (f6q r O s0 (a0z .i64 (s6+1)) s4 s5)
 (ifB (decide ((↑(a9z b):Int)=10))
 (f6q r O s0 (a0z .i64 (s6+1)) s4 s5)
 (ifB (decide ((↑(a9z b):Int)=40))
 (∃n1:Nat,s6=n1/\∃n2:Nat,(a0z .i64 (s6+1))=(n2:Int)/\Do (n1<=n2/\n2<=a4z s0)/\Do ((s5.length+a2z [[Da.str (a5z s0 n1 n2)]])*16<=140737488355328)/\f6q r O s0 (a0z .i64 (s6+1)) s4 (s5++[[Da.str (a5z s0 n1 n2)]]))
 (ifB (decide ((↑(a9z b):Int)=41))
 (∃n3:Nat,s6=n3/\∃n4:Nat,(a0z .i64 (s6+1))=(n4:Int)/\Do (n3<=n4/\n4<=a4z s0)/\Do ((s5.length+a2z [[Da.str (a5z s0 n3 n4)]])*16<=140737488355328)/\f6q r O s0 (a0z .i64 (s6+1)) s4 (s5++[[Da.str (a5z s0 n3 n4)]]))
 (ifB (decide ((↑(a9z b):Int)=44))
 (∃n5:Nat,s6=n5/\∃n6:Nat,(a0z .i64 (s6+1))=(n6:Int)/\Do (n5<=n6/\n6<=a4z s0)/\Do ((s5.length+a2z [[Da.str (a5z s0 n5 n6)]])*16<=140737488355328)/\f6q r O s0 (a0z .i64 (s6+1)) s4 (s5++[[Da.str (a5z s0 n5 n6)]]))
 (ifB (decide ((↑(a9z b):Int)=46))
 (∃n7:Nat,s6=n7/\∃n8:Nat,(a0z .i64 (s6+1))=(n8:Int)/\Do (n7<=n8/\n8<=a4z s0)/\Do ((s5.length+a2z [[Da.str (a5z s0 n7 n8)]])*16<=140737488355328)/\f6q r O s0 (a0z .i64 (s6+1)) s4 (s5++[[Da.str (a5z s0 n7 n8)]]))
 (ifB (decide ((↑(a9z b):Int)=61))
 (∃n9:Nat,s6=n9/\∃n10:Nat,(a0z .i64 (s6+1))=(n10:Int)/\Do (n9<=n10/\n10<=a4z s0)/\Do ((s5.length+a2z [[Da.str (a5z s0 n9 n10)]])*16<=140737488355328)/\f6q r O s0 (a0z .i64 (s6+1)) s4 (s5++[[Da.str (a5z s0 n9 n10)]]))
 (ifB (decide ((↑(a9z b):Int)=124))
 (∃n11:Nat,s6=n11/\∃n12:Nat,(a0z .i64 (s6+1))=(n12:Int)/\Do (n11<=n12/\n12<=a4z s0)/\Do ((s5.length+a2z [[Da.str (a5z s0 n11 n12)]])*16<=140737488355328)/\f6q r O s0 (a0z .i64 (s6+1)) s4 (s5++[[Da.str (a5z s0 n11 n12)]]))
 (ifB (decide ((↑(a9z b):Int)=126))
 (∃n13:Nat,s6=n13/\∃n14:Nat,(a0z .i64 (s6+1))=(n14:Int)/\Do (n13<=n14/\n14<=a4z s0)/\Do ((s5.length+a2z [[Da.str (a5z s0 n13 n14)]])*16<=140737488355328)/\f6q r O s0 (a0z .i64 (s6+1)) s4 (s5++[[Da.str (a5z s0 n13 n14)]]))
 (ifB (decide ((↑(a9z b):Int)=33))
 (ifB (decide (a0z .i64 (s6+1)<(s0.size:Int)))
 (∃n15:Nat,∃b1:UInt8,(a0z .i64 (s6+1))=(n15:Int)/\(s0[n15]?)=some b1/\ifB (decide ((↑(a9z b1):Int)=61))
 (Do ((s5.length+a2z [[Da.str ⟨#[33,61]⟩]])*16<=140737488355328)/\f6q r O s0 (a0z .i64 (s6+2)) s4 (s5++[[Da.str ⟨#[33,61]⟩]]))
 (p4q r O s0 s6 s6 s4 s5))
 (p4q r O s0 s6 s6 s4 s5))
 (p4q r O s0 s6 s6 s4 s5)))))))))))
 ((.tup [L s5,Z (-1:Int)])=r/\[]=O)):f6q r O s0 s6 s4 s5:=by
 unfold f6q CLk
 refine c6q (E:=env) (hs:=E6q) envOk a5q ?_
 exact a4q (by kernel_rfl) h
theorem U3q {r:AV} {O:List (Nat×Ob)} {s0:ByteArray} {s6 s8:Int} {s4 s5:LL} (h:ifB (decide (s8<(s0.size:Int)))
 (∃n:Nat,∃b:UInt8,s8=n/\(s0[n]?)=some b/\∃b1,XC pg 145 [I .u8 (↑(a9z b):Int)] [] (B b1) []/\ifB b1
 (p4q r O s0 s6 (a0z .i64 (s8+1)) s4 s5)
 (ifB (decide (s8=s6))
 ((.tup [L s4,Z s6])=r/\[]=O)
 (∃n1:Nat,s6=n1/\∃n2:Nat,s8=n2/\Do (n1<=n2/\n2<=a4z s0)/\Do ((s5.length+a2z [[Da.str (a5z s0 n1 n2)]])*16<=140737488355328)/\f6q r O s0 s8 s4 (s5++[[Da.str (a5z s0 n1 n2)]]))))
 (ifB (decide (s8=s6))
 ((.tup [L s4,Z s6])=r/\[]=O)
 (∃n3:Nat,s6=n3/\∃n4:Nat,s8=n4/\Do (n3<=n4/\n4<=a4z s0)/\Do ((s5.length+a2z [[Da.str (a5z s0 n3 n4)]])*16<=140737488355328)/\f6q r O s0 s8 s4 (s5++[[Da.str (a5z s0 n3 n4)]])))):p4q r O s0 s6 s8 s4 s5:=by
 unfold p4q CLk
 refine c6q (E:=env) (hs:=E6q) envOk a5q ?_
 exact a4q (by kernel_rfl) h
theorem a78q {p:ByteArray} {r:AV} {O:List (Nat×Ob)} (h:ifB (decide ((3000:Int)<(p.size:Int)))
 ((.tup [L [],Z 0])=r/\[]=O)
 (f6q r O p (0:Int) [] [])):XC pg 92 [(T p)] [] r O :=
 c1q (E:=env) (hs:=E6q) (c:=(a2q Tryz.f92)) (n:=117) (res:=[.tmp 2,.tmp 3]) (rs:=.t [.c .l,.c (.i .i64)]) (ks:=[]) (dir:=[]) envOk a5q rfl Tryz.func92 (by kernel_rfl) (by kernel_rfl) (by kernel_rfl) (by kernel_rfl) (a4q (by kernel_rfl) h)
def O5q:b4q:=⟨[(3,⟨[0,2],[],[],[],[],[2],[]⟩)],[]⟩
def x4q (r:AV) (O:List (Nat×Ob)) (c:LL) (c1:Int) (c2:Bool) (list c3 c4:LL):Prop:=CLk 44 env O5q (a2q Tryz.f93) [0,1,1,1,0,0,0] (M0q env [] (.t []) [(2000,(true)),(2001,(false)),(2002,(false))] [2000] r O) ⟨[(0,(.one (.op 2000 0))),(2,(.one (.ol 1900)))],[(2000,(.var [(.d (.sl c)),(.d (.int .i64 c1)),(.d (.bool c2)),(.ol 1901),(.ol 1902)])),(1900,(.lst 54 7 list)),(1901,(.lst 104 3 c3)),(1902,(.lst 29 1 c4))]⟩
theorem a2bq {r:AV} {O:List (Nat×Ob)} {c:LL} {c1:Int} {c2:Bool} {list c3 c4:LL} (h:ifB c2
 (∃b n n1 xs n2 n3 xs1 xs2 m b1 xs3 xs4,XC pg 148 [.one (.op 2000 0)] (o0_ c c1 c2 c3 c4) (.dat (r7 b n n1 xs n2 n3 xs1)) (o1_ xs2 m b1 xs3 xs4)/\Do ((list.length+a2z [(r7 b n n1 xs n2 n3 xs1)])*88<=140737488355328)/\∃b2 xs5 m1 b3 xs6 xs7,XC pg 146 [.one (.op 2000 0),T ⟨#[124]⟩] (o0_ xs2 m b1 xs3 xs4) (B b2) (o1_ xs5 m1 b3 xs6 xs7)/\ifB (!b2)
 (Do ((xs7.length+a2z [[Da.sl (list++[(r7 b n n1 xs n2 n3 xs1)])]])*24<=140737488355328)/\ifB b3
 (∃b4 xs8 m2 b5 xs9 xs10,XC pg 146 [.one (.op 2000 0),T ⟨#[46]⟩] (o0_ xs5 m1 b3 xs6 (xs7++[[Da.sl (list++[(r7 b n n1 xs n2 n3 xs1)])]])) (B b4) (o1_ xs8 m2 b5 xs9 xs10)/\.tup []=r/\(o1_ xs8 m2 b4 xs9 xs10)=O)
 ((.tup [])=r/\(o1_ xs5 m1 false xs6 (xs7++[[Da.sl (list++[(r7 b n n1 xs n2 n3 xs1)])]]))=O))
 (x4q r O xs5 m1 b3 (list++[(r7 b n n1 xs n2 n3 xs1)]) xs6 xs7))
 (Do ((c4.length+a2z [[Da.sl list]])*24<=140737488355328)/\ifB c2
 (∃b6 xs11 m3 b7 xs12 xs13,XC pg 146 [.one (.op 2000 0),T ⟨#[46]⟩] (o0_ c c1 c2 c3 (c4++[[Da.sl list]])) (B b6) (o1_ xs11 m3 b7 xs12 xs13)/\.tup []=r/\(o1_ xs11 m3 b6 xs12 xs13)=O)
 ((.tup [])=r/\(o1_ c c1 false c3 (c4++[[Da.sl list]]))=O))):x4q r O c c1 c2 list c3 c4:=by
 unfold x4q CLk
 refine c6q (E:=env) (hs:=O5q) envOk a5q ?_
 exact a4q (by kernel_rfl) h
theorem a57q {o2000:LL} {o20001:Int} {o20002:Bool} {o20003 o20004:LL} {r:AV} {O:List (Nat×Ob)} (h:∃b xs m b1 xs1 xs2,XC pg 146 [.one (.op 2000 0),T ⟨#[97,99]⟩] (o0_ o2000 o20001 o20002 o20003 o20004) (B b) (o1_ xs m b1 xs1 xs2)/\ifB b
 (∃xs3 m1 b2 xs4 xs5,XC pg 147 [.one (.op 2000 0)] (o0_ xs m b1 xs1 xs2) (.tup []) (o1_ xs3 m1 b2 xs4 xs5)/\ifB b2
 (∃b3 xs6 m2 b4 xs7 xs8,XC pg 146 [.one (.op 2000 0),T ⟨#[46]⟩] (o0_ xs3 m1 b2 xs4 xs5) (B b3) (o1_ xs6 m2 b4 xs7 xs8)/\.tup []=r/\(o1_ xs6 m2 b3 xs7 xs8)=O)
 ((.tup [])=r/\(o1_ xs3 m1 false xs4 xs5)=O))
 (x4q r O xs m b1 [] xs1 xs2)):XC pg 93 [(.one (.op 2000 0))] (o5_ o2000 o20001 o20002 o20003 o20004) r O :=
 w9q (E:=env) (hs:=O5q) (c:=(a2q Tryz.f93)) (n:=44) (res:=[]) (rs:=.t []) (ks:=[(2000,(true)),(2001,(false)),(2002,(false))]) (dir:=[2000]) envOk a5q [(2000,2000),(2001,1001),(2002,1002)] [] (by kernel_rfl) rfl Tryz.func93 (by kernel_rfl) (by kernel_rfl) (by kernel_rfl) (by kernel_rfl) (a4q (by kernel_rfl) h)
def Y0q:b4q:=⟨[(2,⟨[0,3],[],[],[],[],[],[]⟩)],[]⟩
def t3q (r:AV) (O:List (Nat×Ob)) (s:LL) (i:Int):Prop:=CLk 62 env Y0q (a2q Tryz.f94) [1,0,1,0,0] (e0q env [.tmp 2] (.c .b) [] [] r O) ⟨[(0,(L s)),(3,(Z i))],[]⟩
theorem Y1q {r:AV} {O:List (Nat×Ob)} {s:LL} {i:Int} (h:ifB (decide (i<(s.length:Int)))
 (∃m:Nat,i=m/\∃q n b,(s[m]?)=some [.str q,.int .i64 n,.bool b]/\∃b1,XC pg 149 [T q] [] (B b1) []/\ifB (!b1)
 (B false=r/\[]=O)
 (∃m1:Nat,i=m1/\∃q1 n1 b2,(s[m1]?)=some [.str q1,.int .i64 n1,.bool b2]/\∃n2,XC pg 150 [L s,T q1] [] (Z n2) []/\ifB (decide (n2≠i))
 (B false=r/\[]=O)
 (∃m2:Nat,i=m2/\∃q2 n3 b3,(s[m2]?)=some [.str q2,.int .i64 n3,.bool b3]/\∃b4,XC pg 95 [Z n3,Z 0,Z 3] [] (B b4) []/\ifB (!b4)
 (B false=r/\[]=O)
 (∃m3:Nat,i=m3/\∃q3 n4 b5,(s[m3]?)=some [.str q3,.int .i64 n4,.bool b5]/\ifB b5
 (∃m4:Nat,i=m4/\∃q4 n5 b6,(s[m4]?)=some [.str q4,.int .i64 n5,.bool b6]/\ifB (decide (n5≠2))
 (B false=r/\[]=O)
 (t3q r O s (a0z .i64 (i+1))))
 (t3q r O s (a0z .i64 (i+1)))))))
 (∃b7,XC pg 95 [Z (s.length:Int),Z 1,Z 8] [] (B b7) []/\ifB b7
 (∃m5:Nat,(0:Int)=(m5:Int)/\∃q5 n6 b8,(s[m5]?)=some [.str q5,.int .i64 n6,.bool b8]/\(B (decide (q5=⟨#[116,116]⟩)&&(decide (n6=0)&&decide (b8=false))))=r/\[]=O)
 (B false=r/\[]=O))):t3q r O s i:=by
 unfold t3q CLk
 refine c6q (E:=env) (hs:=Y0q) envOk a5q ?_
 exact a4q (by kernel_rfl) h
theorem a7Rq {s:LL} {r:AV} {O:List (Nat×Ob)} (h:t3q r O s (0:Int)):XC pg 94 [(L s)] [] r O :=
 c1q (E:=env) (hs:=Y0q) (c:=(a2q Tryz.f94)) (n:=62) (res:=[.tmp 2]) (rs:=.c .b) (ks:=[]) (dir:=[]) envOk a5q rfl Tryz.func94 (by kernel_rfl) (by kernel_rfl) (by kernel_rfl) (by kernel_rfl) (a4q (by kernel_rfl) h)
def aa2q:b4q:=⟨[],[]⟩
theorem a8bq {x lo hi:Int} {r:AV} {O:List (Nat×Ob)} (h:ifB (decide (lo<=x))
 ((B (decide (x<=hi)))=r/\[]=O)
 (B false=r/\[]=O)):XC pg 95 [(Z x),(Z lo),(Z hi)] [] r O :=
 c1q (E:=env) (hs:=aa2q) (c:=(a2q Tryz.f95)) (n:=15) (res:=[.tmp 6]) (rs:=.c .b) (ks:=[]) (dir:=[]) envOk a5q rfl Tryz.func95 (by kernel_rfl) (by kernel_rfl) (by kernel_rfl) (by kernel_rfl) (a4q (by kernel_rfl) h)
def t4q:b4q:=⟨[(3,⟨[0,1,4,5,6],[],[],[(5,(0,(54,7)))],[],[5],[]⟩),(7,⟨[0,1,4,5,6,7,8],[],[],[],[],[],[]⟩)],[]⟩
def g4q (r:AV) (O:List (Nat×Ob)) (s0 s1:LL) (s6:Int) (s5:LL):Prop:=CLk 82 env t4q (a2q Tryz.f18) [1,1,0,1,0,0] (e0q env [.cell 4 29] (.d [.l]) [] [] r O) ⟨[(0,(L s0)),(1,(L s1)),(4,(.one (.op 1900 0))),(5,(.one (.op 1901 0))),(6,(Z s6))],[(1900,(.var [.e0])),(1901,(.var [(.ol 1902)])),(1902,(.lst 54 7 s5))]⟩
def s8q (r:AV) (O:List (Nat×Ob)) (s0 s1:LL) (s6 s8:Int) (s7:Bool) (s71 s72:Int) (s73:LL) (s74 s75:Int) (s76 s5:LL):Prop:=CLk 82 env t4q (a2q Tryz.f18) [1,1,0,1,0,0,1,0,0,1,1,0,0,0] (e0q env [.cell 4 29] (.d [.l]) [] [] r O) ⟨[(0,(L s0)),(1,(L s1)),(4,(.one (.op 1900 0))),(5,(.one (.op 1901 0))),(6,(Z s6)),(7,(.one (.op 1902 0))),(8,(Z s8))],[(1900,(.var [.e0])),(1901,(.var [(.ol 1903)])),(1902,(.var [(.d (.bool s7)),(.d (.int .i64 s71)),(.d (.int .i64 s72)),(.d (.sl s73)),(.d (.int .i64 s74)),(.d (.int .i64 s75)),(.d (.sl s76))])),(1903,(.lst 54 7 s5))]⟩
theorem J8q {r:AV} {O:List (Nat×Ob)} {s0 s1:LL} {s6:Int} {s5:LL} (h:ifB (decide (s6<(s1.length:Int)))
 (∃m:Nat,s6=m/\∃b n n1 xs n2 n3 xs1,(s1[m]?)=some (r7 b n n1 xs n2 n3 xs1)/\∃m1:Nat,s6=m1/\∃b1 n4 n5 xs2 n6 n7 xs3,(s1[m1]?)=some (r7 b1 n4 n5 xs2 n6 n7 xs3)/\∃m2:Nat,s6=m2/\∃b2 n8 n9 xs4 n10 n11 xs5,(s1[m2]?)=some (r7 b2 n8 n9 xs4 n10 n11 xs5)/\∃b3 n12 n13 xs6 n14 n15 xs7,XC pg 64 [L s0,B b,.dat (r3 n4 n5 xs2),.dat (r3 n10 n11 xs5)] [] (.dat (r7 b3 n12 n13 xs6 n14 n15 xs7)) []/\s8q r O s0 s1 s6 (0:Int) b3 n12 n13 xs6 n14 n15 xs7 s5)
 ((.dat [.sl s5])=r/\[]=O)):g4q r O s0 s1 s6 s5:=by
 unfold g4q CLk
 refine c6q (E:=env) (hs:=t4q) envOk a5q ?_
 exact a4q (by kernel_rfl) h
theorem I6q {r:AV} {O:List (Nat×Ob)} {s0 s1:LL} {s6 s8:Int} {s7:Bool} {s71 s72:Int} {s73:LL} {s74 s75:Int} {s76 s5:LL} (h:ifB (decide (s8<(s5.length:Int)))
 (∃m:Nat,s8=m/\Do (m<s5.length)/\∃n:Nat,(m*7)=(n*7)/\∃b n1 n2 xs n3 n4 xs1,(s5[n]?)=some (r7 b n1 n2 xs n3 n4 xs1)/\∃b1,XC pg 65 [.dat (r7 b n1 n2 xs n3 n4 xs1),.dat (r7 s7 s71 s72 s73 s74 s75 s76)] [] (B b1) []/\ifB b1
 (s8q r O s0 s1 s6 (a0z .i64 (s8+1)) s7 s71 s72 s73 s74 s75 s76 s5)
 (ifB (decide (s8<(s5.length:Int)))
 (∃m1:Nat,s8=m1/\Do (m1<s5.length)/\∃n5:Nat,(m1*7)=(n5*7)/\∃b2 n6 n7 xs2 n8 n9 xs3,(s5[n5]?)=some (r7 b2 n6 n7 xs2 n8 n9 xs3)/\∃b3,XC pg 66 [.dat (r7 b2 n6 n7 xs2 n8 n9 xs3),.dat (r7 s7 s71 s72 s73 s74 s75 s76)] [] (B b3) []/\ifB b3
 (g4q r O s0 s1 (a0z .i64 (s6+1)) s5)
 (∃n10:Nat,s8=n10/\Do ((0:Nat)<=n10/\n10<=s5.length)/\Do ((0:Nat)+(0:Nat)+(n10-0)<=s5.length)/\Do (∀(y:List Da),y∈s5->y.length=Prod.fst ((7:Nat),(88:Nat),[At.d (Da.bool false),At.d (Da.int a1z 0),At.d (Da.int a1z 0),At.e0,At.d (Da.int a1z 0),At.d (Da.int a1z 0),At.e0]))/\Do ((a2z ([]:LL)+a2z (a7z (n10-0) (a8z ((0:Nat)+(0:Nat)) s5)))*88<=140737488355328)/\Do ((a2z ([]++a7z (n10-0) (a8z ((0:Nat)+(0:Nat)) s5))+a2z [(r7 s7 s71 s72 s73 s74 s75 s76)])*88<=140737488355328)/\∃n11:Nat,s8=n11/\Do (n11<=s5.length/\s5.length<=s5.length)/\Do ((0:Nat)+n11+(s5.length-n11)<=s5.length)/\Do (∀(y:List Da),y∈s5->y.length=Prod.fst ((7:Nat),(88:Nat),[At.d (Da.bool false),At.d (Da.int a1z 0),At.d (Da.int a1z 0),At.e0,At.d (Da.int a1z 0),At.d (Da.int a1z 0),At.e0]))/\Do ((a2z ([]++a7z (n10-0) (a8z ((0:Nat)+(0:Nat)) s5)++[(r7 s7 s71 s72 s73 s74 s75 s76)])+a2z (a7z (s5.length-n11) (a8z ((0:Nat)+n11) s5)))*88<=140737488355328)/\g4q r O s0 s1 (a0z .i64 (s6+1)) ([]++a7z (n10-0) (a8z ((0:Nat)+(0:Nat)) s5)++[(r7 s7 s71 s72 s73 s74 s75 s76)]++a7z (s5.length-n11) (a8z ((0:Nat)+n11) s5))))
 (∃n12:Nat,s8=n12/\Do ((0:Nat)<=n12/\n12<=s5.length)/\Do ((0:Nat)+(0:Nat)+(n12-0)<=s5.length)/\Do (∀(y:List Da),y∈s5->y.length=Prod.fst ((7:Nat),(88:Nat),[At.d (Da.bool false),At.d (Da.int a1z 0),At.d (Da.int a1z 0),At.e0,At.d (Da.int a1z 0),At.d (Da.int a1z 0),At.e0]))/\Do ((a2z ([]:LL)+a2z (a7z (n12-0) (a8z ((0:Nat)+(0:Nat)) s5)))*88<=140737488355328)/\Do ((a2z ([]++a7z (n12-0) (a8z ((0:Nat)+(0:Nat)) s5))+a2z [(r7 s7 s71 s72 s73 s74 s75 s76)])*88<=140737488355328)/\∃n13:Nat,s8=n13/\Do (n13<=s5.length/\s5.length<=s5.length)/\Do ((0:Nat)+n13+(s5.length-n13)<=s5.length)/\Do (∀(y:List Da),y∈s5->y.length=Prod.fst ((7:Nat),(88:Nat),[At.d (Da.bool false),At.d (Da.int a1z 0),At.d (Da.int a1z 0),At.e0,At.d (Da.int a1z 0),At.d (Da.int a1z 0),At.e0]))/\Do ((a2z ([]++a7z (n12-0) (a8z ((0:Nat)+(0:Nat)) s5)++[(r7 s7 s71 s72 s73 s74 s75 s76)])+a2z (a7z (s5.length-n13) (a8z ((0:Nat)+n13) s5)))*88<=140737488355328)/\g4q r O s0 s1 (a0z .i64 (s6+1)) ([]++a7z (n12-0) (a8z ((0:Nat)+(0:Nat)) s5)++[(r7 s7 s71 s72 s73 s74 s75 s76)]++a7z (s5.length-n13) (a8z ((0:Nat)+n13) s5)))))
 (ifB (decide (s8<(s5.length:Int)))
 (∃m2:Nat,s8=m2/\Do (m2<s5.length)/\∃n14:Nat,(m2*7)=(n14*7)/\∃b4 n15 n16 xs4 n17 n18 xs5,(s5[n14]?)=some (r7 b4 n15 n16 xs4 n17 n18 xs5)/\∃b5,XC pg 66 [.dat (r7 b4 n15 n16 xs4 n17 n18 xs5),.dat (r7 s7 s71 s72 s73 s74 s75 s76)] [] (B b5) []/\ifB b5
 (g4q r O s0 s1 (a0z .i64 (s6+1)) s5)
 (∃n19:Nat,s8=n19/\Do ((0:Nat)<=n19/\n19<=s5.length)/\Do ((0:Nat)+(0:Nat)+(n19-0)<=s5.length)/\Do (∀(y:List Da),y∈s5->y.length=Prod.fst ((7:Nat),(88:Nat),[At.d (Da.bool false),At.d (Da.int a1z 0),At.d (Da.int a1z 0),At.e0,At.d (Da.int a1z 0),At.d (Da.int a1z 0),At.e0]))/\Do ((a2z ([]:LL)+a2z (a7z (n19-0) (a8z ((0:Nat)+(0:Nat)) s5)))*88<=140737488355328)/\Do ((a2z ([]++a7z (n19-0) (a8z ((0:Nat)+(0:Nat)) s5))+a2z [(r7 s7 s71 s72 s73 s74 s75 s76)])*88<=140737488355328)/\∃n20:Nat,s8=n20/\Do (n20<=s5.length/\s5.length<=s5.length)/\Do ((0:Nat)+n20+(s5.length-n20)<=s5.length)/\Do (∀(y:List Da),y∈s5->y.length=Prod.fst ((7:Nat),(88:Nat),[At.d (Da.bool false),At.d (Da.int a1z 0),At.d (Da.int a1z 0),At.e0,At.d (Da.int a1z 0),At.d (Da.int a1z 0),At.e0]))/\Do ((a2z ([]++a7z (n19-0) (a8z ((0:Nat)+(0:Nat)) s5)++[(r7 s7 s71 s72 s73 s74 s75 s76)])+a2z (a7z (s5.length-n20) (a8z ((0:Nat)+n20) s5)))*88<=140737488355328)/\g4q r O s0 s1 (a0z .i64 (s6+1)) ([]++a7z (n19-0) (a8z ((0:Nat)+(0:Nat)) s5)++[(r7 s7 s71 s72 s73 s74 s75 s76)]++a7z (s5.length-n20) (a8z ((0:Nat)+n20) s5))))
 (∃n21:Nat,s8=n21/\Do ((0:Nat)<=n21/\n21<=s5.length)/\Do ((0:Nat)+(0:Nat)+(n21-0)<=s5.length)/\Do (∀(y:List Da),y∈s5->y.length=Prod.fst ((7:Nat),(88:Nat),[At.d (Da.bool false),At.d (Da.int a1z 0),At.d (Da.int a1z 0),At.e0,At.d (Da.int a1z 0),At.d (Da.int a1z 0),At.e0]))/\Do ((a2z ([]:LL)+a2z (a7z (n21-0) (a8z ((0:Nat)+(0:Nat)) s5)))*88<=140737488355328)/\Do ((a2z ([]++a7z (n21-0) (a8z ((0:Nat)+(0:Nat)) s5))+a2z [(r7 s7 s71 s72 s73 s74 s75 s76)])*88<=140737488355328)/\∃n22:Nat,s8=n22/\Do (n22<=s5.length/\s5.length<=s5.length)/\Do ((0:Nat)+n22+(s5.length-n22)<=s5.length)/\Do (∀(y:List Da),y∈s5->y.length=Prod.fst ((7:Nat),(88:Nat),[At.d (Da.bool false),At.d (Da.int a1z 0),At.d (Da.int a1z 0),At.e0,At.d (Da.int a1z 0),At.d (Da.int a1z 0),At.e0]))/\Do ((a2z ([]++a7z (n21-0) (a8z ((0:Nat)+(0:Nat)) s5)++[(r7 s7 s71 s72 s73 s74 s75 s76)])+a2z (a7z (s5.length-n22) (a8z ((0:Nat)+n22) s5)))*88<=140737488355328)/\g4q r O s0 s1 (a0z .i64 (s6+1)) ([]++a7z (n21-0) (a8z ((0:Nat)+(0:Nat)) s5)++[(r7 s7 s71 s72 s73 s74 s75 s76)]++a7z (s5.length-n22) (a8z ((0:Nat)+n22) s5))))):s8q r O s0 s1 s6 s8 s7 s71 s72 s73 s74 s75 s76 s5:=by
 unfold s8q CLk
 refine c6q (E:=env) (hs:=t4q) envOk a5q ?_
 exact a4q (by kernel_rfl) h
theorem a2Cq {p p1:LL} {r:AV} {O:List (Nat×Ob)} (h:g4q r O p p1 (0:Int) []):XC pg 18 [(L p),(L p1)] [] r O :=
 c1q (E:=env) (hs:=t4q) (c:=(a2q Tryz.f18)) (n:=82) (res:=[.cell 4 29]) (rs:=.d [.l]) (ks:=[]) (dir:=[]) envOk a5q rfl Tryz.func18 (by kernel_rfl) (by kernel_rfl) (by kernel_rfl) (by kernel_rfl) (a4q (by kernel_rfl) h)
def K9q:b4q:=⟨[(2,⟨[0,3,5],[],[],[],[],[],[]⟩)],[]⟩
def p2q (r:AV) (O:List (Nat×Ob)) (s:LL) (i:Int) (c:LL):Prop:=CLk 44 env K9q (a2q Tryz.f28) [1,0,1,0,0] (e0q env [.tmp 4] (.c .b) [] [] r O) ⟨[(0,(L s)),(3,(.one (.op 1900 0))),(5,(Z i))],[(1900,(.var [(.d (.sl c))]))]⟩
theorem N5q {r:AV} {O:List (Nat×Ob)} {s:LL} {i:Int} {c:LL} (h:ifB (decide (i<(c.length:Int)))
 (∃m:Nat,i=m/\∃b n n1 xs n2 n3 xs1,(c[m]?)=some (r7 b n n1 xs n2 n3 xs1)/\∃b1,XC pg 77 [L s,.dat (r7 b n n1 xs n2 n3 xs1)] [] (B b1) []/\ifB (!b1)
 (B false=r/\[]=O)
 (ifB (decide ((0:Int)<i))
 (∃m1:Nat,(a0z .i64 (i-1))=(m1:Int)/\∃b2 n4 n5 xs2 n6 n7 xs3,(c[m1]?)=some (r7 b2 n4 n5 xs2 n6 n7 xs3)/\∃m2:Nat,i=m2/\∃b3 n8 n9 xs4 n10 n11 xs5,(c[m2]?)=some (r7 b3 n8 n9 xs4 n10 n11 xs5)/\∃b4,XC pg 65 [.dat (r7 b2 n4 n5 xs2 n6 n7 xs3),.dat (r7 b3 n8 n9 xs4 n10 n11 xs5)] [] (B b4) []/\ifB (!b4)
 (B false=r/\[]=O)
 (p2q r O s (a0z .i64 (i+1)) c))
 (p2q r O s (a0z .i64 (i+1)) c)))
 ((B (decide ((c.length:Int)<=8)))=r/\[]=O)):p2q r O s i c:=by
 unfold p2q CLk
 refine c6q (E:=env) (hs:=K9q) envOk a5q ?_
 exact a4q (by kernel_rfl) h
theorem a4eq {s c:LL} {r:AV} {O:List (Nat×Ob)} (h:p2q r O s (0:Int) c):XC pg 28 [(L s),(.dat [(.sl c)])] [] r O :=
 c1q (E:=env) (hs:=K9q) (c:=(a2q Tryz.f28)) (n:=44) (res:=[.tmp 4]) (rs:=.c .b) (ks:=[]) (dir:=[]) envOk a5q rfl Tryz.func28 (by kernel_rfl) (by kernel_rfl) (by kernel_rfl) (by kernel_rfl) (a4q (by kernel_rfl) h)
def D6q:b4q:=⟨[(5,⟨[0,4,5],[],[],[],[],[],[]⟩),(12,⟨[0,4,5,6],[],[],[],[],[],[]⟩)],[]⟩
def j8q (r:AV) (O:List (Nat×Ob)) (s0:ByteArray) (s5:Int) (s4:LL):Prop:=CLk 74 env D6q (a2q Tryz.f84) [1,1,1,0,1,0,0] (e0q env [.tmp 2,.tmp 3] (.t [.c .l,.c (.i .i64)]) [] [] r O) ⟨[(0,(T s0)),(4,(.one (.ol 1900))),(5,(Z s5))],[(1900,(.tr 9 1 s4))]⟩
def z9q (r:AV) (O:List (Nat×Ob)) (s0:ByteArray) (s5 s6:Int) (s4:LL):Prop:=CLk 74 env D6q (a2q Tryz.f84) [1,1,1,0,1,0,0,1,0,1,0,0,1,1,1,1,1,0,0,0] (e0q env [.tmp 2,.tmp 3] (.t [.c .l,.c (.i .i64)]) [] [] r O) ⟨[(0,(T s0)),(4,(.one (.ol 1900))),(5,(Z s5)),(6,(Z s6))],[(1900,(.tr 9 1 s4))]⟩
theorem a41q {r:AV} {O:List (Nat×Ob)} {s0:ByteArray} {s5:Int} {s4:LL} (h:ifB (decide (s5<(s0.size:Int)))
 (∃n:Nat,∃b:UInt8,s5=n/\(s0[n]?)=some b/\ifB (decide ((↑(a9z b):Int)=32))
 (j8q r O s0 (a0z .i64 (s5+1)) s4)
 (∃n1:Nat,∃b1:UInt8,s5=n1/\(s0[n1]?)=some b1/\ifB (decide ((↑(a9z b1):Int)=10))
 (j8q r O s0 (a0z .i64 (s5+1)) s4)
 (∃n2:Nat,s5=n2/\Do (n2<=a4z s0/\a4z s0<=a4z s0)/\∃b2,XC pg 139 [T (a5z s0 n2 (a4z s0)),T ⟨#[33,61]⟩] [] (B b2) []/\ifB b2
 (∃n3:Nat,s5=n3/\∃n4:Nat,(a0z .i64 (s5+2))=(n4:Int)/\Do (n3<=n4/\n4<=a4z s0)/\Do ((s4.length+a2z [[Da.str (a5z s0 n3 n4)]])*16<=140737488355328)/\j8q r O s0 (a0z .i64 (s5+2)) (s4++[[Da.str (a5z s0 n3 n4)]]))
 (∃n5:Nat,∃b3:UInt8,s5=n5/\(s0[n5]?)=some b3/\∃b4,XC pg 140 [I .u8 (↑(a9z b3):Int)] [] (B b4) []/\ifB b4
 (z9q r O s0 s5 (1:Int) s4)
 (∃n6:Nat,∃b5:UInt8,s5=n6/\(s0[n6]?)=some b5/\∃n7,XC pg 141 [T ⟨#[40,41,44,46,61,124,126]⟩,I .u8 (↑(a9z b5):Int)] [] (Z n7) []/\ifB (decide (n7<0))
 ((.tup [L [],Z s5])=r/\[]=O)
 (∃n8:Nat,s5=n8/\∃n9:Nat,(a0z .i64 (s5+1))=(n9:Int)/\Do (n8<=n9/\n9<=a4z s0)/\Do ((s4.length+a2z [[Da.str (a5z s0 n8 n9)]])*16<=140737488355328)/\j8q r O s0 (a0z .i64 (s5+1)) (s4++[[Da.str (a5z s0 n8 n9)]])))))))
 ((.tup [L s4,Z (-1:Int)])=r/\[]=O)):j8q r O s0 s5 s4:=by
 unfold j8q CLk
 refine c6q (E:=env) (hs:=D6q) envOk a5q ?_
 exact a4q (by kernel_rfl) h
theorem T7q {r:AV} {O:List (Nat×Ob)} {s0:ByteArray} {s5 s6:Int} {s4:LL} (h:ifB (decide (a0z .i64 (s5+s6)<(s0.size:Int)))
 (∃n:Nat,∃b:UInt8,(a0z .i64 (s5+s6))=(n:Int)/\(s0[n]?)=some b/\∃b1,XC pg 140 [I .u8 (↑(a9z b):Int)] [] (B b1) []/\ifB b1
 (z9q r O s0 s5 (a0z .i64 (s6+1)) s4)
 (∃n1:Nat,s5=n1/\∃n2:Nat,(a0z .i64 (s5+s6))=(n2:Int)/\Do (n1<=n2/\n2<=a4z s0)/\Do ((s4.length+a2z [[Da.str (a5z s0 n1 n2)]])*16<=140737488355328)/\j8q r O s0 (a0z .i64 (s5+s6)) (s4++[[Da.str (a5z s0 n1 n2)]])))
 (∃n3:Nat,s5=n3/\∃n4:Nat,(a0z .i64 (s5+s6))=(n4:Int)/\Do (n3<=n4/\n4<=a4z s0)/\Do ((s4.length+a2z [[Da.str (a5z s0 n3 n4)]])*16<=140737488355328)/\j8q r O s0 (a0z .i64 (s5+s6)) (s4++[[Da.str (a5z s0 n3 n4)]]))):z9q r O s0 s5 s6 s4:=by
 unfold z9q CLk
 refine c6q (E:=env) (hs:=D6q) envOk a5q ?_
 exact a4q (by kernel_rfl) h
theorem a7Fq {p:ByteArray} {r:AV} {O:List (Nat×Ob)} (h:ifB (decide ((3000:Int)<(p.size:Int)))
 ((.tup [L [],Z 0])=r/\[]=O)
 (j8q r O p (0:Int) [])):XC pg 84 [(T p)] [] r O :=
 c1q (E:=env) (hs:=D6q) (c:=(a2q Tryz.f84)) (n:=74) (res:=[.tmp 2,.tmp 3]) (rs:=.t [.c .l,.c (.i .i64)]) (ks:=[]) (dir:=[]) envOk a5q rfl Tryz.func84 (by kernel_rfl) (by kernel_rfl) (by kernel_rfl) (by kernel_rfl) (a4q (by kernel_rfl) h)
def a2Fq:b4q:=⟨[],[]⟩
theorem a2aq {word:ByteArray} {o2000:LL} {o20001:Int} {o20002:Bool} {o20003:LL} {r:AV} {O:List (Nat×Ob)} (h:∃q xs m xs1 b,XC pg 142 [.one (.op 2000 0)] (o2_ o2000 o20001 o20002 o20003) (T q) (o3_ xs m b xs1)/\ifB (decide (q=word))
 ((B (decide (q=word)))=r/\(o3_ xs (a0z .i64 (m+1)) b xs1)=O)
 ((B (decide (q=word)))=r/\(o3_ xs m b xs1)=O)):XC pg 85 [(.one (.op 2000 0)),(T word)] (o6_ o2000 o20001 o20002 o20003) r O :=
 w9q (E:=env) (hs:=a2Fq) (c:=(a2q Tryz.f85)) (n:=19) (res:=[.tmp 4]) (rs:=.c .b) (ks:=[(2000,(true)),(2001,(false))]) (dir:=[2000]) envOk a5q [(2000,2000),(2001,1001)] [] (by kernel_rfl) rfl Tryz.func85 (by kernel_rfl) (by kernel_rfl) (by kernel_rfl) (by kernel_rfl) (a4q (by kernel_rfl) h)
def B0q:b4q:=⟨[(2,⟨[0],[],[],[],[],[],[]⟩)],[]⟩
def g3q (r:AV) (O:List (Nat×Ob)) (r_:LL) (r_1:Int) (r_2:Bool) (r_3:LL):Prop:=CLk 58 env B0q (a2q Tryz.f86) [1,0,0] (M0q env [] (.t []) [(2000,(true)),(2001,(false))] [2000] r O) ⟨[(0,(.one (.op 2000 0)))],[(2000,(.var [(.d (.sl r_)),(.d (.int .i64 r_1)),(.ol 1900),(.d (.bool r_2))])),(1900,(.tr 104 3 r_3))]⟩
theorem X4q {r:AV} {O:List (Nat×Ob)} {r_:LL} {r_1:Int} {r_2:Bool} {r_3:LL} (h:ifB (!r_2)
 (∃q xs m xs1 b,XC pg 142 [.one (.op 2000 0)] (o2_ r_ r_1 r_2 r_3) (T q) (o3_ xs m b xs1)/\ifB (decide (q≠⟨#[46]⟩))
 (∃q1 xs2 m1 xs3 b1,XC pg 142 [.one (.op 2000 0)] (o2_ xs m b xs1) (T q1) (o3_ xs2 m1 b1 xs3)/\∃b2,XC pg 98 [T q1] [] (B b2) []/\ifB (!b2)
 (Do ((xs3.length+a2z [[Da.str q1,Da.int a1z 2,Da.bool true]])*32<=140737488355328)/\g3q r O xs2 (a0z .i64 (m1+1)) (true) (xs3++[[Da.str q1,Da.int a1z 2,Da.bool true]]))
 (ifB (decide (q1=⟨#[97,99]⟩))
 (Do ((xs3.length+a2z [[Da.str q1,Da.int a1z 2,Da.bool true]])*32<=140737488355328)/\g3q r O xs2 (a0z .i64 (m1+1)) (true) (xs3++[[Da.str q1,Da.int a1z 2,Da.bool true]]))
 (∃n,XC pg 99 [L xs3,T q1] [] (Z n) []/\ifB (decide ((0:Int)<=n))
 (Do ((xs3.length+a2z [[Da.str q1,Da.int a1z 2,Da.bool true]])*32<=140737488355328)/\g3q r O xs2 (a0z .i64 (m1+1)) (true) (xs3++[[Da.str q1,Da.int a1z 2,Da.bool true]]))
 (Do ((xs3.length+a2z [[Da.str q1,Da.int a1z 2,Da.bool true]])*32<=140737488355328)/\g3q r O xs2 (a0z .i64 (m1+1)) b1 (xs3++[[Da.str q1,Da.int a1z 2,Da.bool true]])))))
 ((.tup [])=r/\(o3_ xs m b xs1)=O))
 ((.tup [])=r/\(o3_ r_ r_1 r_2 r_3)=O)):g3q r O r_ r_1 r_2 r_3:=by
 unfold g3q CLk
 refine c6q (E:=env) (hs:=B0q) envOk a5q ?_
 exact a4q (by kernel_rfl) h
theorem a0Rq {o2000:LL} {o20001:Int} {o20002:Bool} {o20003:LL} {r:AV} {O:List (Nat×Ob)} (h:∃q xs m xs1 b,XC pg 142 [.one (.op 2000 0)] (o2_ o2000 o20001 o20002 o20003) (T q) (o3_ xs m b xs1)/\ifB (decide (q=⟨#[46]⟩))
 (g3q r O xs m (true) xs1)
 (g3q r O xs m b xs1)):XC pg 86 [(.one (.op 2000 0))] (o6_ o2000 o20001 o20002 o20003) r O :=
 w9q (E:=env) (hs:=B0q) (c:=(a2q Tryz.f86)) (n:=58) (res:=[]) (rs:=.t []) (ks:=[(2000,(true)),(2001,(false))]) (dir:=[2000]) envOk a5q [(2000,2000),(2001,1001)] [] (by kernel_rfl) rfl Tryz.func86 (by kernel_rfl) (by kernel_rfl) (by kernel_rfl) (by kernel_rfl) (a4q (by kernel_rfl) h)
def a2oq:b4q:=⟨[],[]⟩
theorem a1Xq {word:ByteArray} {o2000:LL} {o20001:Int} {o20002:Bool} {o20003:LL} {r:AV} {O:List (Nat×Ob)} (h:∃b xs m xs1 b1,XC pg 85 [.one (.op 2000 0),T word] (o2_ o2000 o20001 o20002 o20003) (B b) (o3_ xs m b1 xs1)/\ifB (!b)
 ((.tup [])=r/\(o3_ xs m true xs1)=O)
 ((.tup [])=r/\(o3_ xs m b1 xs1)=O)):XC pg 88 [(.one (.op 2000 0)),(T word)] (o6_ o2000 o20001 o20002 o20003) r O :=
 w9q (E:=env) (hs:=a2oq) (c:=(a2q Tryz.f88)) (n:=11) (res:=[]) (rs:=.t []) (ks:=[(2000,(true)),(2001,(false))]) (dir:=[2000]) envOk a5q [(2000,2000),(2001,1001)] [] (by kernel_rfl) rfl Tryz.func88 (by kernel_rfl) (by kernel_rfl) (by kernel_rfl) (by kernel_rfl) (a4q (by kernel_rfl) h)
def Y5q:b4q:=⟨[(2,⟨[0,5,6,7],[],[],[],[],[],[]⟩)],[]⟩
def t2q (r:AV) (O:List (Nat×Ob)) (s s5:LL) (s6 s7:Int):Prop:=CLk 57 env Y5q (a2q Tryz.f39) [1,0,1,0,0] (e0q env [.tmp 2] (.c .b) [] [] r O) ⟨[(0,(L s)),(5,(L s5)),(6,(Z s6)),(7,(Z s7))],[]⟩
theorem Y3q {r:AV} {O:List (Nat×Ob)} {s s5:LL} {s6 s7:Int} (h:ifB (decide (s7<s6))
 (∃m:Nat,s7=m/\∃q n b,(s5[m]?)=some [.str q,.int .i64 n,.bool b]/\∃b1,XC pg 98 [T q] [] (B b1) []/\ifB (!b1)
 (B false=r/\[]=O)
 (∃n1,XC pg 99 [L s,T q] [] (Z n1) []/\ifB (decide (n1≠s7))
 (B false=r/\[]=O)
 (∃b2,XC pg 89 [Z n,Z 0,Z 3] [] (B b2) []/\ifB (!b2)
 (B false=r/\[]=O)
 (ifB b
 (ifB (decide (n≠2))
 (B false=r/\[]=O)
 (t2q r O s s5 s6 (a0z .i64 (s7+1))))
 (t2q r O s s5 s6 (a0z .i64 (s7+1)))))))
 (∃b3,XC pg 89 [Z (s.length:Int),Z 1,Z 8] [] (B b3) []/\ifB b3
 (∃m1:Nat,(0:Int)=(m1:Int)/\∃q1 n2 b4,(s[m1]?)=some [.str q1,.int .i64 n2,.bool b4]/\ifB (decide (q1=⟨#[116,116]⟩))
 (∃m2:Nat,(0:Int)=(m2:Int)/\∃q2 n3 b5,(s[m2]?)=some [.str q2,.int .i64 n3,.bool b5]/\(B (decide (n3=0)))=r/\[]=O)
 (B false=r/\[]=O))
 (B false=r/\[]=O))):t2q r O s s5 s6 s7:=by
 unfold t2q CLk
 refine c6q (E:=env) (hs:=Y5q) envOk a5q ?_
 exact a4q (by kernel_rfl) h
theorem a7pq {s:LL} {r:AV} {O:List (Nat×Ob)} (h:t2q r O s s (s.length:Int) (0:Int)):XC pg 39 [(L s)] [] r O :=
 c1q (E:=env) (hs:=Y5q) (c:=(a2q Tryz.f39)) (n:=57) (res:=[.tmp 2]) (rs:=.c .b) (ks:=[]) (dir:=[]) envOk a5q rfl Tryz.func39 (by kernel_rfl) (by kernel_rfl) (by kernel_rfl) (by kernel_rfl) (a4q (by kernel_rfl) h)
def a9Eq:b4q:=⟨[],[]⟩
theorem a96q {n low high:Int} {r:AV} {O:List (Nat×Ob)} (h:ifB (decide (low<=n))
 ((B (decide (n<=high)))=r/\[]=O)
 (B false=r/\[]=O)):XC pg 89 [(Z n),(Z low),(Z high)] [] r O :=
 c1q (E:=env) (hs:=a9Eq) (c:=(a2q Tryz.f89)) (n:=15) (res:=[.tmp 6]) (rs:=.c .b) (ks:=[]) (dir:=[]) envOk a5q rfl Tryz.func89 (by kernel_rfl) (by kernel_rfl) (by kernel_rfl) (by kernel_rfl) (a4q (by kernel_rfl) h)
def a3tq:b4q:=⟨[],[]⟩
theorem a2vq {o2000:LL} {o20001:Int} {o20002:Bool} {o20003:LL} {r:AV} {O:List (Nat×Ob)} (h:∃b xs m xs1 b1,XC pg 85 [.one (.op 2000 0),T ⟨#[126]⟩] (o2_ o2000 o20001 o20002 o20003) (B b) (o3_ xs m b1 xs1)/\ifB b
 (∃n n1 xs2 xs3 m1 xs4 b2,XC pg 143 [.one (.op 2000 0)] (o2_ xs m b1 xs1) (.dat (r3 n n1 xs2)) (o3_ xs3 m1 b2 xs4)/\.dat (r7 (false) n n1 xs2 (0:Int) (0:Int) [])=r/\(o3_ xs3 m1 b2 xs4)=O)
 (∃n2 n3 xs5 xs6 m2 xs7 b3,XC pg 143 [.one (.op 2000 0)] (o2_ xs m b1 xs1) (.dat (r3 n2 n3 xs5)) (o3_ xs6 m2 b3 xs7)/\∃b4 xs8 m3 xs9 b5,XC pg 85 [.one (.op 2000 0),T ⟨#[61]⟩] (o2_ xs6 m2 b3 xs7) (B b4) (o3_ xs8 m3 b5 xs9)/\ifB b4
 (∃n4 n5 xs10 xs11 m4 xs12 b6,XC pg 143 [.one (.op 2000 0)] (o2_ xs8 m3 b5 xs9) (.dat (r3 n4 n5 xs10)) (o3_ xs11 m4 b6 xs12)/\.dat (r7 (true) n2 n3 xs5 n4 n5 xs10)=r/\(o3_ xs11 m4 b6 xs12)=O)
 (∃b7 xs13 m5 xs14 b8,XC pg 85 [.one (.op 2000 0),T ⟨#[33,61]⟩] (o2_ xs8 m3 b5 xs9) (B b7) (o3_ xs13 m5 b8 xs14)/\ifB b7
 (∃n6 n7 xs15 xs16 m6 xs17 b9,XC pg 143 [.one (.op 2000 0)] (o2_ xs13 m5 b8 xs14) (.dat (r3 n6 n7 xs15)) (o3_ xs16 m6 b9 xs17)/\.dat (r7 (false) n2 n3 xs5 n6 n7 xs15)=r/\(o3_ xs16 m6 b9 xs17)=O)
 ((.dat (r7 (true) n2 n3 xs5 (0:Int) (0:Int) []))=r/\(o3_ xs13 m5 b8 xs14)=O)))):XC pg 87 [(.one (.op 2000 0))] (o6_ o2000 o20001 o20002 o20003) r O :=
 w9q (E:=env) (hs:=a3tq) (c:=(a2q Tryz.f87)) (n:=29) (res:=[.cell 2 54]) (rs:=.d [.b,(.i .i64),(.i .i64),.l,(.i .i64),(.i .i64),.l]) (ks:=[(2000,(true)),(2001,(false))]) (dir:=[2000]) envOk a5q [(2000,2000),(2001,1001)] [] (by kernel_rfl) rfl Tryz.func87 (by kernel_rfl) (by kernel_rfl) (by kernel_rfl) (by kernel_rfl) (a4q (by kernel_rfl) h)
def G4q:b4q:=⟨[(3,⟨[0,4,5,9,10,11],[],[],[],[],[],[]⟩)],[]⟩
def s7q (r:AV) (O:List (Nat×Ob)) (s s9:LL) (s10 s11:Int) (out:LL):Prop:=CLk 32 env G4q (a2q Tryz.f8) [1,1,0,1,0,0] (e0q env [.cell 4 29] (.s [.o 54 7]) [] [] r O) ⟨[(0,(L s)),(4,(.one (.op 1900 0))),(5,(.one (.ol 1901))),(9,(L s9)),(10,(Z s10)),(11,(Z s11))],[(1900,(.var [.e0])),(1901,(.tr 54 7 out))]⟩
theorem J1q {r:AV} {O:List (Nat×Ob)} {s s9:LL} {s10 s11:Int} {out:LL} (h:ifB (decide (s11<s10))
 (∃m:Nat,s11=m/\∃b n n1 xs n2 n3 xs1,(s9[m]?)=some (r7 b n n1 xs n2 n3 xs1)/\∃b1 n4 n5 xs2 n6 n7 xs3,XC pg 52 [L s,B b,.dat (r3 n n1 xs),.dat (r3 n2 n3 xs1)] [] (g7 b1 n4 n5 0 n6 n7 1) [(0,.tr 52 3 xs2),(1,.tr 52 3 xs3)]/\Do ((out.length+a2z [(r7 b1 n4 n5 xs2 n6 n7 xs3)])*88<=140737488355328)/\s7q r O s s9 s10 (a0z .i64 (s11+1)) (out++[(r7 b1 n4 n5 xs2 n6 n7 xs3)]))
 (∃xs4,XC pg 53 [.one (.ol 2000),.one (.d (.fn 54))] [(2000,.tr 54 7 out)] (.tup []) [(2000,.tr 54 7 xs4)]/\∃xs5,XC pg 55 [.one (.ol 2000),.one (.d (.fn 56))] [(2000,.tr 54 7 xs4)] (.one (.ol 0)) [(0,.tr 54 7 xs5)]/\.agg [.ol 0]=r/\[(0,.tr 54 7 xs5)]=O)):s7q r O s s9 s10 s11 out:=by
 unfold s7q CLk
 refine c6q (E:=env) (hs:=G4q) envOk a5q ?_
 exact a4q (by kernel_rfl) h
theorem a2Dq {s list:LL} {r:AV} {O:List (Nat×Ob)} (h:s7q r O s list (list.length:Int) (0:Int) []):XC pg 8 [(L s),(L list)] [] r O :=
 c1q (E:=env) (hs:=G4q) (c:=(a2q Tryz.f8)) (n:=32) (res:=[.cell 4 29]) (rs:=.s [.o 54 7]) (ks:=[]) (dir:=[]) envOk a5q rfl Tryz.func8 (by kernel_rfl) (by kernel_rfl) (by kernel_rfl) (by kernel_rfl) (a4q (by kernel_rfl) h)
def A9q:b4q:=⟨[],[]⟩
theorem A3q {o2000 o2001:LL} {o20011:Int} {o20012:Bool} {o20013:LL} {r:AV} {O:List (Nat×Ob)} (h:∃n xs xs1 m xs2 b,XC pg 144 [.one (.ol 2000),.one (.clo 91 [(2001,0)])] [(2000,.tr 29 1 o2000),(2001,.var [.op 2002 0]),(2002,.var [.d (.sl o2001),.d (.int .i64 o20011),.ol 2003,.d (.bool o20012)]),(2003,.tr 104 3 o20013)] (Z n) (o4_ xs xs1 m b xs2)/\(B (decide ((0:Int)<=n)))=r/\(o4_ xs xs1 m b xs2)=O):XC pg 90 [(.one (.ol 2000)),(.one (.clo 91 [(2001,0)]))] [(2000,(.tr 29 1 o2000)),(2001,(.var [(.op 2002 0)])),(2002,(.var [(.d (.sl o2001)),(.d (.int .i64 o20011)),(.ol 2003),(.d (.bool o20012))])),(2003,(.tr 104 3 o20013))] r O :=
 c1q (E:=env) (hs:=A9q) (c:=(a2q Tryz.f90)) (n:=9) (res:=[.tmp 4]) (rs:=.c .b) (ks:=[(2000,(false)),(2001,(true)),(2002,(true)),(2003,(false))]) (dir:=[2000,2001]) envOk a5q rfl Tryz.func90 (by kernel_rfl) (by kernel_rfl) (by kernel_rfl) (by kernel_rfl) (a4q (by kernel_rfl) h)
def a9uq:b4q:=⟨[],[]⟩
theorem a7lq {a:ByteArray} {a1:Int} {a2:Bool} {b:ByteArray} {b1:Int} {b2:Bool} {r:AV} {O:List (Nat×Ob)} (h:ifB (decide (a≠b))
 (B false=r/\[]=O)
 (ifB (decide (a1≠b1))
 (B false=r/\[]=O)
 (ifB (decide (a2≠b2))
 (B false=r/\[]=O)
 (B true=r/\[]=O)))):XC pg 100 [(.dat [(.str a),(.int .i64 a1),(.bool a2)]),(.dat [(.str b),(.int .i64 b1),(.bool b2)])] [] r O :=
 c1q (E:=env) (hs:=a9uq) (c:=(a2q Tryz.f100)) (n:=20) (res:=[.tmp 4]) (rs:=.c .b) (ks:=[]) (dir:=[]) envOk a5q rfl Tryz.func100 (by kernel_rfl) (by kernel_rfl) (by kernel_rfl) (by kernel_rfl) (a4q (by kernel_rfl) h)
def a4Lq:b4q:=⟨[],[]⟩
theorem a3Xq {a b:LL} {r:AV} {O:List (Nat×Ob)} (h:∃b1,XC pg 156 [L a,L b] [] (B b1) []/\ifB (!b1)
 (B false=r/\[]=O)
 (B true=r/\[]=O)):XC pg 101 [(.dat [(.sl a)]),(.dat [(.sl b)])] [] r O :=
 c1q (E:=env) (hs:=a4Lq) (c:=(a2q Tryz.f101)) (n:=11) (res:=[.tmp 4]) (rs:=.c .b) (ks:=[]) (dir:=[]) envOk a5q rfl Tryz.func101 (by kernel_rfl) (by kernel_rfl) (by kernel_rfl) (by kernel_rfl) (a4q (by kernel_rfl) h)
def M1q:b4q:=⟨[(4,⟨[0,3],[],[],[],[],[],[]⟩)],[]⟩
def u7q (r:AV) (O:List (Nat×Ob)) (k:Int) (out:ByteArray):Prop:=CLk 20 env M1q (a2q Tryz.f102) [1,1,1,0,0,0] (e0q env [.tmp 2] (.c .s) [] [] r O) ⟨[(0,(Z k)),(3,(T out))],[]⟩
theorem N6q {r:AV} {O:List (Nat×Ob)} {k:Int} {out:ByteArray} (h:ifB (decide ((0:Int)<k))
 (Do ((10:Int)≠(0:Int))/\∃ns:List Int,[[.int .u8 (a0z aiz (a0z .i64 ((48:Int)+abz k (10:Int))))]]=(aqz (fun n=>[Da.int aiz n]) ns)/\Do (a4z (strOfNums ns++out)<=281474976710656)/\Do ((10:Int)≠(0:Int))/\u7q r O (a0z .i64 (alz k (10:Int))) (strOfNums ns++out))
 (Do (a4z (⟨#[109]⟩++out)<=281474976710656)/\(T (⟨#[109]⟩++out))=r/\[]=O)):u7q r O k out:=by
 unfold u7q CLk
 refine c6q (E:=env) (hs:=M1q) envOk a5q ?_
 exact a4q (by kernel_rfl) h
theorem a3Zq {k:Int} {r:AV} {O:List (Nat×Ob)} (h:ifB (decide (k<=0))
 ((T ⟨#[109,48]⟩)=r/\[]=O)
 (u7q r O k ⟨#[]⟩)):XC pg 102 [(Z k)] [] r O :=
 c1q (E:=env) (hs:=M1q) (c:=(a2q Tryz.f102)) (n:=20) (res:=[.tmp 2]) (rs:=.c .s) (ks:=[]) (dir:=[]) envOk a5q rfl Tryz.func102 (by kernel_rfl) (by kernel_rfl) (by kernel_rfl) (by kernel_rfl) (a4q (by kernel_rfl) h)
def M4q:b4q:=⟨[(2,⟨[0,1,5],[],[],[],[],[],[]⟩)],[]⟩
def u6q (r:AV) (O:List (Nat×Ob)) (s1 s5:Int) (s0:LL):Prop:=CLk 70 env M4q (a2q Tryz.f103) [1,0,1,0,0] (e0q env [.tmp 4] (.c (.i .i64)) [(2000,(false))] [2000] r O) ⟨[(0,(.one (.ol 2000))),(1,(Z s1)),(5,(Z s5))],[(2000,(.mt 54 7 s0))]⟩
theorem N8q {r:AV} {O:List (Nat×Ob)} {s1 s5:Int} {s0:LL} (h:ifB (decide (s5<(s0.length:Int)))
 (Do ((3:Int)≠(0:Int))/\∃m:Nat,s5=m/\Do (m<s0.length)/\∃m1:Nat,(m*7+0)=(m1*7+0)/\∃b n n1 xs n2 n3 xs1,(s0[m1]?)=some (r7 b n n1 xs n2 n3 xs1)/\∃m2:Nat,s5=m2/\Do (m2<a2z (a3z s0 m1 ([]++[Da.bool (decide (abz s1 (3:Int)=(0:Int)))]++(r6 n n1 xs n2 n3 xs1))))/\∃m3:Nat,(m2*7+1+0)=(m3*7+1)/\∃b1:Bool,∃n4 n5:Int,∃xs2:LL,∃n6 n7:Int,∃xs3:LL,((a3z s0 m1 ([]++[Da.bool (decide (abz s1 (3:Int)=(0:Int)))]++(r6 n n1 xs n2 n3 xs1)))[m3]?)=some (r7 b1 n4 n5 xs2 n6 n7 xs3)/\∃m4:Nat,s5=m4/\Do (m4<a2z (a3z (a3z s0 m1 ([]++[Da.bool (decide (abz s1 (3:Int)=(0:Int)))]++(r6 n n1 xs n2 n3 xs1))) m3 ([Da.bool b1]++[Da.int a1z (a0z .i64 (s1+1))]++[Da.int a1z n5,Da.sl xs2,Da.int a1z n6,Da.int a1z n7,Da.sl xs3])))/\∃m5:Nat,(m4*7+1+1)=(m5*7+2)/\∃b2:Bool,∃n8 n9:Int,∃xs4:LL,∃n10 n11:Int,∃xs5:LL,((a3z (a3z s0 m1 ([]++[Da.bool (decide (abz s1 (3:Int)=(0:Int)))]++(r6 n n1 xs n2 n3 xs1))) m3 ([Da.bool b1]++[Da.int a1z (a0z .i64 (s1+1))]++[Da.int a1z n5,Da.sl xs2,Da.int a1z n6,Da.int a1z n7,Da.sl xs3]))[m5]?)=some (r7 b2 n8 n9 xs4 n10 n11 xs5)/\∃m6:Nat,s5=m6/\Do (m6<a2z (a3z (a3z (a3z s0 m1 ([]++[Da.bool (decide (abz s1 (3:Int)=(0:Int)))]++(r6 n n1 xs n2 n3 xs1))) m3 ([Da.bool b1]++[Da.int a1z (a0z .i64 (s1+1))]++[Da.int a1z n5,Da.sl xs2,Da.int a1z n6,Da.int a1z n7,Da.sl xs3])) m5 ([Da.bool b2,Da.int a1z n8]++[Da.int a1z (a0z .i64 (a0z .i64 (s1+1)+1))]++[Da.sl xs4,Da.int a1z n10,Da.int a1z n11,Da.sl xs5])))/\∃m7:Nat,(m6*7+1+2)=(m7*7+3)/\∃b3:Bool,∃n12 n13:Int,∃xs6:LL,∃n14 n15:Int,∃xs7:LL,((a3z (a3z (a3z s0 m1 ([]++[Da.bool (decide (abz s1 (3:Int)=(0:Int)))]++(r6 n n1 xs n2 n3 xs1))) m3 ([Da.bool b1]++[Da.int a1z (a0z .i64 (s1+1))]++[Da.int a1z n5,Da.sl xs2,Da.int a1z n6,Da.int a1z n7,Da.sl xs3])) m5 ([Da.bool b2,Da.int a1z n8]++[Da.int a1z (a0z .i64 (a0z .i64 (s1+1)+1))]++[Da.sl xs4,Da.int a1z n10,Da.int a1z n11,Da.sl xs5]))[m7]?)=some (r7 b3 n12 n13 xs6 n14 n15 xs7)/\∀(a:Option Addr),∀(l:Nat),∀(r1:Nat),(a=a/\(l)=(l)/\(r1)=(r1))/\∃b4:Bool,∃n16 n17:Int,∃xs8:LL,∃n18 n19:Int,∃xs9:LL,((a3z (a3z (a3z s0 m1 ([]++[Da.bool (decide (abz s1 (3:Int)=(0:Int)))]++(r6 n n1 xs n2 n3 xs1))) m3 ([Da.bool b1]++[Da.int a1z (a0z .i64 (s1+1))]++[Da.int a1z n5,Da.sl xs2,Da.int a1z n6,Da.int a1z n7,Da.sl xs3])) m5 ([Da.bool b2,Da.int a1z n8]++[Da.int a1z (a0z .i64 (a0z .i64 (s1+1)+1))]++[Da.sl xs4,Da.int a1z n10,Da.int a1z n11,Da.sl xs5]))[m7]?)=some (r7 b4 n16 n17 xs8 n18 n19 xs9)/\Do (∀(y:List Da),y∈xs8->y.length=Prod.fst ((3:Nat),(40:Nat),[At.d (Da.int a1z 0),At.d (Da.int a1z 0),At.e0]))/\∃ys1 n20,XC pg 157 [.one (.ol 2000),Z (a0z .i64 (a0z .i64 (a0z .i64 (s1+1)+1)+1))] [(2000,.mt 52 3 xs8)] (Z n20) [(2000,.mt 52 3 ys1)]/\∃m8:Nat,s5=m8/\Do (m8<a2z (a3z (a3z (a3z (a3z s0 m1 ([]++[Da.bool (decide (abz s1 (3:Int)=(0:Int)))]++(r6 n n1 xs n2 n3 xs1))) m3 ([Da.bool b1]++[Da.int a1z (a0z .i64 (s1+1))]++[Da.int a1z n5,Da.sl xs2,Da.int a1z n6,Da.int a1z n7,Da.sl xs3])) m5 ([Da.bool b2,Da.int a1z n8]++[Da.int a1z (a0z .i64 (a0z .i64 (s1+1)+1))]++[Da.sl xs4,Da.int a1z n10,Da.int a1z n11,Da.sl xs5])) m7 ([Da.bool b4,Da.int a1z n16,Da.int a1z n17]++[Da.sl ys1]++(r3 n18 n19 xs9))))/\∃m9:Nat,(m8*7+4+0)=(m9*7+Nat.succ (nat_lit 3))/\∃b5:Bool,∃n21 n22:Int,∃xs10:LL,∃n23 n24:Int,∃xs11:LL,((a3z (a3z (a3z (a3z s0 m1 ([]++[Da.bool (decide (abz s1 (3:Int)=(0:Int)))]++(r6 n n1 xs n2 n3 xs1))) m3 ([Da.bool b1]++[Da.int a1z (a0z .i64 (s1+1))]++[Da.int a1z n5,Da.sl xs2,Da.int a1z n6,Da.int a1z n7,Da.sl xs3])) m5 ([Da.bool b2,Da.int a1z n8]++[Da.int a1z (a0z .i64 (a0z .i64 (s1+1)+1))]++[Da.sl xs4,Da.int a1z n10,Da.int a1z n11,Da.sl xs5])) m7 ([Da.bool b4,Da.int a1z n16,Da.int a1z n17]++[Da.sl ys1]++(r3 n18 n19 xs9)))[m9]?)=some (r7 b5 n21 n22 xs10 n23 n24 xs11)/\∃m10:Nat,s5=m10/\Do (m10<a2z (a3z (a3z (a3z (a3z (a3z s0 m1 ([]++[Da.bool (decide (abz s1 (3:Int)=(0:Int)))]++(r6 n n1 xs n2 n3 xs1))) m3 ([Da.bool b1]++[Da.int a1z (a0z .i64 (s1+1))]++[Da.int a1z n5,Da.sl xs2,Da.int a1z n6,Da.int a1z n7,Da.sl xs3])) m5 ([Da.bool b2,Da.int a1z n8]++[Da.int a1z (a0z .i64 (a0z .i64 (s1+1)+1))]++[Da.sl xs4,Da.int a1z n10,Da.int a1z n11,Da.sl xs5])) m7 ([Da.bool b4,Da.int a1z n16,Da.int a1z n17]++[Da.sl ys1]++(r3 n18 n19 xs9))) m9 ([Da.bool b5,Da.int a1z n21,Da.int a1z n22,Da.sl xs10]++[Da.int a1z n20]++[Da.int a1z n24,Da.sl xs11])))/\∃m11:Nat,(m10*7+4+1)=(m11*7+Nat.succ (nat_lit 4))/\∃b6:Bool,∃n25 n26:Int,∃xs12:LL,∃n27 n28:Int,∃xs13:LL,((a3z (a3z (a3z (a3z (a3z s0 m1 ([]++[Da.bool (decide (abz s1 (3:Int)=(0:Int)))]++(r6 n n1 xs n2 n3 xs1))) m3 ([Da.bool b1]++[Da.int a1z (a0z .i64 (s1+1))]++[Da.int a1z n5,Da.sl xs2,Da.int a1z n6,Da.int a1z n7,Da.sl xs3])) m5 ([Da.bool b2,Da.int a1z n8]++[Da.int a1z (a0z .i64 (a0z .i64 (s1+1)+1))]++[Da.sl xs4,Da.int a1z n10,Da.int a1z n11,Da.sl xs5])) m7 ([Da.bool b4,Da.int a1z n16,Da.int a1z n17]++[Da.sl ys1]++(r3 n18 n19 xs9))) m9 ([Da.bool b5,Da.int a1z n21,Da.int a1z n22,Da.sl xs10]++[Da.int a1z n20]++[Da.int a1z n24,Da.sl xs11]))[m11]?)=some (r7 b6 n25 n26 xs12 n27 n28 xs13)/\∃m12:Nat,s5=m12/\Do (m12<a2z (a3z (a3z (a3z (a3z (a3z (a3z s0 m1 ([]++[Da.bool (decide (abz s1 (3:Int)=(0:Int)))]++(r6 n n1 xs n2 n3 xs1))) m3 ([Da.bool b1]++[Da.int a1z (a0z .i64 (s1+1))]++[Da.int a1z n5,Da.sl xs2,Da.int a1z n6,Da.int a1z n7,Da.sl xs3])) m5 ([Da.bool b2,Da.int a1z n8]++[Da.int a1z (a0z .i64 (a0z .i64 (s1+1)+1))]++[Da.sl xs4,Da.int a1z n10,Da.int a1z n11,Da.sl xs5])) m7 ([Da.bool b4,Da.int a1z n16,Da.int a1z n17]++[Da.sl ys1]++(r3 n18 n19 xs9))) m9 ([Da.bool b5,Da.int a1z n21,Da.int a1z n22,Da.sl xs10]++[Da.int a1z n20]++[Da.int a1z n24,Da.sl xs11])) m11 ([Da.bool b6,Da.int a1z n25,Da.int a1z n26,Da.sl xs12,Da.int a1z n27]++[Da.int a1z (a0z .i64 (n20+1))]++[Da.sl xs13])))/\∃m13:Nat,(m12*7+4+2)=(m13*7+Nat.succ (nat_lit 5))/\∃b7:Bool,∃n29 n30:Int,∃xs14:LL,∃n31 n32:Int,∃xs15:LL,((a3z (a3z (a3z (a3z (a3z (a3z s0 m1 ([]++[Da.bool (decide (abz s1 (3:Int)=(0:Int)))]++(r6 n n1 xs n2 n3 xs1))) m3 ([Da.bool b1]++[Da.int a1z (a0z .i64 (s1+1))]++[Da.int a1z n5,Da.sl xs2,Da.int a1z n6,Da.int a1z n7,Da.sl xs3])) m5 ([Da.bool b2,Da.int a1z n8]++[Da.int a1z (a0z .i64 (a0z .i64 (s1+1)+1))]++[Da.sl xs4,Da.int a1z n10,Da.int a1z n11,Da.sl xs5])) m7 ([Da.bool b4,Da.int a1z n16,Da.int a1z n17]++[Da.sl ys1]++(r3 n18 n19 xs9))) m9 ([Da.bool b5,Da.int a1z n21,Da.int a1z n22,Da.sl xs10]++[Da.int a1z n20]++[Da.int a1z n24,Da.sl xs11])) m11 ([Da.bool b6,Da.int a1z n25,Da.int a1z n26,Da.sl xs12,Da.int a1z n27]++[Da.int a1z (a0z .i64 (n20+1))]++[Da.sl xs13]))[m13]?)=some (r7 b7 n29 n30 xs14 n31 n32 xs15)/\∀(a1:Option Addr),∀(l1:Nat),∀(r2:Nat),(a1=a1/\(l1)=(l1)/\(r2)=(r2))/\∃b8:Bool,∃n33 n34:Int,∃xs16:LL,∃n35 n36:Int,∃xs17:LL,((a3z (a3z (a3z (a3z (a3z (a3z s0 m1 ([]++[Da.bool (decide (abz s1 (3:Int)=(0:Int)))]++(r6 n n1 xs n2 n3 xs1))) m3 ([Da.bool b1]++[Da.int a1z (a0z .i64 (s1+1))]++[Da.int a1z n5,Da.sl xs2,Da.int a1z n6,Da.int a1z n7,Da.sl xs3])) m5 ([Da.bool b2,Da.int a1z n8]++[Da.int a1z (a0z .i64 (a0z .i64 (s1+1)+1))]++[Da.sl xs4,Da.int a1z n10,Da.int a1z n11,Da.sl xs5])) m7 ([Da.bool b4,Da.int a1z n16,Da.int a1z n17]++[Da.sl ys1]++(r3 n18 n19 xs9))) m9 ([Da.bool b5,Da.int a1z n21,Da.int a1z n22,Da.sl xs10]++[Da.int a1z n20]++[Da.int a1z n24,Da.sl xs11])) m11 ([Da.bool b6,Da.int a1z n25,Da.int a1z n26,Da.sl xs12,Da.int a1z n27]++[Da.int a1z (a0z .i64 (n20+1))]++[Da.sl xs13]))[m13]?)=some (r7 b8 n33 n34 xs16 n35 n36 xs17)/\Do (∀(y:List Da),y∈xs17->y.length=Prod.fst ((3:Nat),(40:Nat),[At.d (Da.int a1z 0),At.d (Da.int a1z 0),At.e0]))/\∃ys11 n37,XC pg 157 [.one (.ol 2000),Z (a0z .i64 (a0z .i64 (n20+1)+1))] [(2000,.mt 52 3 xs17)] (Z n37) [(2000,.mt 52 3 ys11)]/\u6q r O n37 (a0z .i64 (s5+1)) (a3z (a3z (a3z (a3z (a3z (a3z (a3z s0 m1 ([]++[Da.bool (decide (abz s1 (3:Int)=(0:Int)))]++(r6 n n1 xs n2 n3 xs1))) m3 ([Da.bool b1]++[Da.int a1z (a0z .i64 (s1+1))]++[Da.int a1z n5,Da.sl xs2,Da.int a1z n6,Da.int a1z n7,Da.sl xs3])) m5 ([Da.bool b2,Da.int a1z n8]++[Da.int a1z (a0z .i64 (a0z .i64 (s1+1)+1))]++[Da.sl xs4,Da.int a1z n10,Da.int a1z n11,Da.sl xs5])) m7 ([Da.bool b4,Da.int a1z n16,Da.int a1z n17]++[Da.sl ys1]++(r3 n18 n19 xs9))) m9 ([Da.bool b5,Da.int a1z n21,Da.int a1z n22,Da.sl xs10]++[Da.int a1z n20]++[Da.int a1z n24,Da.sl xs11])) m11 ([Da.bool b6,Da.int a1z n25,Da.int a1z n26,Da.sl xs12,Da.int a1z n27]++[Da.int a1z (a0z .i64 (n20+1))]++[Da.sl xs13])) m13 ([Da.bool b8,Da.int a1z n33,Da.int a1z n34,Da.sl xs16,Da.int a1z n35,Da.int a1z n36]++[Da.sl ys11]++[])))
 (Z s1=r/\[(2000,.mt 54 7 s0)]=O)):u6q r O s1 s5 s0:=by
 unfold u6q CLk
 refine c6q (E:=env) (hs:=M4q) envOk a5q ?_
 exact a4q (by kernel_rfl) h
theorem a45q {p:Int} {o2000:LL} {r:AV} {O:List (Nat×Ob)} (h:u6q r O p (0:Int) o2000):XC pg 103 [(.one (.ol 2000)),(Z p)] [(2000,(.mt 54 7 o2000))] r O :=
 c1q (E:=env) (hs:=M4q) (c:=(a2q Tryz.f103)) (n:=70) (res:=[.tmp 4]) (rs:=.c (.i .i64)) (ks:=[(2000,(false))]) (dir:=[2000]) envOk a5q rfl Tryz.func103 (by kernel_rfl) (by kernel_rfl) (by kernel_rfl) (by kernel_rfl) (a4q (by kernel_rfl) h)
def L4q:b4q:=⟨[(2,⟨[0,1,5],[],[],[],[],[],[]⟩)],[]⟩
def v3q (r:AV) (O:List (Nat×Ob)) (s0:LL) (s1 s5:Int):Prop:=CLk 84 env L4q (a2q Tryz.f104) [1,0,1,0,0] (e0q env [.tmp 4] (.c (.i .i64)) [] [] r O) ⟨[(0,(L s0)),(1,(Z s1)),(5,(Z s5))],[]⟩
theorem N4q {r:AV} {O:List (Nat×Ob)} {s0:LL} {s1 s5:Int} (h:ifB (decide (s5<(s0.length:Int)))
 (∃m:Nat,s5=m/\∃b n n1 xs n2 n3 xs1,(s0[m]?)=some (r7 b n n1 xs n2 n3 xs1)/\Do ((3:Int)≠(0:Int))/\ifB (decide (b≠decide (abz s1 (3:Int)=(0:Int))))
 ((Z (-1:Int))=r/\[]=O)
 (∃m1:Nat,s5=m1/\∃b1 n4 n5 xs2 n6 n7 xs3,(s0[m1]?)=some (r7 b1 n4 n5 xs2 n6 n7 xs3)/\ifB (decide (n4≠a0z .i64 (s1+1)))
 ((Z (-1:Int))=r/\[]=O)
 (∃m2:Nat,s5=m2/\∃b2 n8 n9 xs4 n10 n11 xs5,(s0[m2]?)=some (r7 b2 n8 n9 xs4 n10 n11 xs5)/\ifB (decide (n9≠a0z .i64 (a0z .i64 (s1+1)+1)))
 ((Z (-1:Int))=r/\[]=O)
 (∃m3:Nat,s5=m3/\∃b3 n12 n13 xs6 n14 n15 xs7,(s0[m3]?)=some (r7 b3 n12 n13 xs6 n14 n15 xs7)/\∃n16,XC pg 158 [L xs6,Z (a0z .i64 (a0z .i64 (a0z .i64 (s1+1)+1)+1))] [] (Z n16) []/\ifB (decide (n16<0))
 ((Z (-1:Int))=r/\[]=O)
 (∃m4:Nat,s5=m4/\∃b4 n17 n18 xs8 n19 n20 xs9,(s0[m4]?)=some (r7 b4 n17 n18 xs8 n19 n20 xs9)/\ifB (decide (n19≠n16))
 ((Z (-1:Int))=r/\[]=O)
 (∃m5:Nat,s5=m5/\∃b5 n21 n22 xs10 n23 n24 xs11,(s0[m5]?)=some (r7 b5 n21 n22 xs10 n23 n24 xs11)/\ifB (decide (n24≠a0z .i64 (n16+1)))
 ((Z (-1:Int))=r/\[]=O)
 (∃m6:Nat,s5=m6/\∃b6 n25 n26 xs12 n27 n28 xs13,(s0[m6]?)=some (r7 b6 n25 n26 xs12 n27 n28 xs13)/\∃n29,XC pg 158 [L xs13,Z (a0z .i64 (a0z .i64 (n16+1)+1))] [] (Z n29) []/\ifB (decide (n29<0))
 ((Z (-1:Int))=r/\[]=O)
 (v3q r O s0 n29 (a0z .i64 (s5+1))))))))))
 (Z s1=r/\[]=O)):v3q r O s0 s1 s5:=by
 unfold v3q CLk
 refine c6q (E:=env) (hs:=L4q) envOk a5q ?_
 exact a4q (by kernel_rfl) h
theorem a42q {p:LL} {p1:Int} {r:AV} {O:List (Nat×Ob)} (h:v3q r O p p1 (0:Int)):XC pg 104 [(L p),(Z p1)] [] r O :=
 c1q (E:=env) (hs:=L4q) (c:=(a2q Tryz.f104)) (n:=84) (res:=[.tmp 4]) (rs:=.c (.i .i64)) (ks:=[]) (dir:=[]) envOk a5q rfl Tryz.func104 (by kernel_rfl) (by kernel_rfl) (by kernel_rfl) (by kernel_rfl) (a4q (by kernel_rfl) h)
def a3Qq:b4q:=⟨[],[]⟩
theorem a3nq {b:Int} {r:AV} {O:List (Nat×Ob)} (h:ifB (decide ((97:Int)<=b))
 (ifB (decide (b<=122))
 (B true=r/\[]=O)
 (ifB (decide ((65:Int)<=b))
 (ifB (decide (b<=90))
 (B true=r/\[]=O)
 (ifB (decide ((48:Int)<=b))
 ((B (decide (b<=57)))=r/\[]=O)
 (B false=r/\[]=O)))
 (ifB (decide ((48:Int)<=b))
 ((B (decide (b<=57)))=r/\[]=O)
 (B false=r/\[]=O))))
 (ifB (decide ((65:Int)<=b))
 (ifB (decide (b<=90))
 (B true=r/\[]=O)
 (ifB (decide ((48:Int)<=b))
 ((B (decide (b<=57)))=r/\[]=O)
 (B false=r/\[]=O)))
 (ifB (decide ((48:Int)<=b))
 ((B (decide (b<=57)))=r/\[]=O)
 (B false=r/\[]=O)))):XC pg 145 [(I .u8 b)] [] r O :=
 c1q (E:=env) (hs:=a3Qq) (c:=(a2q Tryz.f145)) (n:=25) (res:=[.tmp 2]) (rs:=.c .b) (ks:=[]) (dir:=[]) envOk a5q rfl Tryz.func145 (by kernel_rfl) (by kernel_rfl) (by kernel_rfl) (by kernel_rfl) (a4q (by kernel_rfl) h)
def a86q:b4q:=⟨[],[]⟩
theorem a7yq {word:ByteArray} {o2000:LL} {o20001:Int} {o20002:Bool} {o20003 o20004:LL} {r:AV} {O:List (Nat×Ob)} (h:∃q xs m b xs1 xs2,XC pg 189 [.one (.op 2000 0)] (o0_ o2000 o20001 o20002 o20003 o20004) (T q) (o1_ xs m b xs1 xs2)/\ifB (decide (q≠word))
 (B false=r/\(o1_ xs m b xs1 xs2)=O)
 (B true=r/\(o1_ xs (a0z .i64 (m+1)) b xs1 xs2)=O)):XC pg 146 [(.one (.op 2000 0)),(T word)] (o5_ o2000 o20001 o20002 o20003 o20004) r O :=
 w9q (E:=env) (hs:=a86q) (c:=(a2q Tryz.f146)) (n:=16) (res:=[.tmp 4]) (rs:=.c .b) (ks:=[(2000,(true)),(2001,(false)),(2002,(false))]) (dir:=[2000]) envOk a5q [(2000,2000),(2001,1001),(2002,1002)] [] (by kernel_rfl) rfl Tryz.func146 (by kernel_rfl) (by kernel_rfl) (by kernel_rfl) (by kernel_rfl) (a4q (by kernel_rfl) h)
def K2q:b4q:=⟨[(1,⟨[0,2],[],[],[],[],[],[]⟩)],[]⟩
def u8q (r:AV) (O:List (Nat×Ob)) (s2:Int) (s0:LL) (s01:Int) (s02:Bool) (s03 s04:LL):Prop:=CLk 73 env K2q (a2q Tryz.f147) [1,0,0,0] (M0q env [] (.t []) [(2000,(true)),(2001,(false)),(2002,(false))] [2000] r O) ⟨[(0,(.one (.op 2000 0))),(2,(Z s2))],[(2000,(.var [(.d (.sl s0)),(.d (.int .i64 s01)),(.d (.bool s02)),(.ol 1900),(.ol 1901)])),(1900,(.lst 104 3 s03)),(1901,(.lst 29 1 s04))]⟩
theorem a25q {r:AV} {O:List (Nat×Ob)} {s2:Int} {s0:LL} {s01:Int} {s02:Bool} {s03 s04:LL} (h:ifB s02
 (∃q xs m b xs1 xs2,XC pg 189 [.one (.op 2000 0)] (o0_ s0 s01 s02 s03 s04) (T q) (o1_ xs m b xs1 xs2)/\ifB (decide (q≠⟨#[46]⟩))
 (∃q1 xs3 m1 b1 xs4 xs5,XC pg 189 [.one (.op 2000 0)] (o0_ xs m b xs1 xs2) (T q1) (o1_ xs3 m1 b1 xs4 xs5)/\∃b2,XC pg 149 [T q1] [] (B b2) []/\ifB (!b2)
 ((.tup [])=r/\(o1_ xs3 m1 false xs4 xs5)=O)
 (ifB (decide (q1=⟨#[97,99]⟩))
 ((.tup [])=r/\(o1_ xs3 m1 false xs4 xs5)=O)
 (∃n,XC pg 150 [L xs4,T q1] [] (Z n) []/\ifB (decide ((0:Int)<=n))
 ((.tup [])=r/\(o1_ xs3 m1 false xs4 xs5)=O)
 (ifB (decide ((8:Int)<=(xs4.length:Int)))
 ((.tup [])=r/\(o1_ xs3 m1 false xs4 xs5)=O)
 (Do ((xs4.length+a2z [[Da.str q1,Da.int a1z 2,Da.bool true]])*32<=140737488355328)/\u8q r O (a0z .i64 (s2+1)) xs3 (a0z .i64 (m1+1)) b1 (xs4++[[Da.str q1,Da.int a1z 2,Da.bool true]]) xs5)))))
 (ifB b
 ((.tup [])=r/\(o1_ xs m (decide ((0:Int)<s2)) xs1 xs2)=O)
 ((.tup [])=r/\(o1_ xs m false xs1 xs2)=O)))
 (ifB s02
 ((.tup [])=r/\(o1_ s0 s01 (decide ((0:Int)<s2)) s03 s04)=O)
 ((.tup [])=r/\(o1_ s0 s01 false s03 s04)=O))):u8q r O s2 s0 s01 s02 s03 s04:=by
 unfold u8q CLk
 refine c6q (E:=env) (hs:=K2q) envOk a5q ?_
 exact a4q (by kernel_rfl) h
theorem a48q {o2000:LL} {o20001:Int} {o20002:Bool} {o20003 o20004:LL} {r:AV} {O:List (Nat×Ob)} (h:u8q r O (0:Int) o2000 o20001 o20002 o20003 o20004):XC pg 147 [(.one (.op 2000 0))] (o5_ o2000 o20001 o20002 o20003 o20004) r O :=
 w9q (E:=env) (hs:=K2q) (c:=(a2q Tryz.f147)) (n:=73) (res:=[]) (rs:=.t []) (ks:=[(2000,(true)),(2001,(false)),(2002,(false))]) (dir:=[2000]) envOk a5q [(2000,2000),(2001,1001),(2002,1002)] [] (by kernel_rfl) rfl Tryz.func147 (by kernel_rfl) (by kernel_rfl) (by kernel_rfl) (by kernel_rfl) (a4q (by kernel_rfl) h)
def a7xq:b4q:=⟨[],[]⟩
theorem a5yq {o2000:LL} {o20001:Int} {o20002:Bool} {o20003 o20004:LL} {r:AV} {O:List (Nat×Ob)} (h:∃b xs m b1 xs1 xs2,XC pg 146 [.one (.op 2000 0),T ⟨#[126]⟩] (o0_ o2000 o20001 o20002 o20003 o20004) (B b) (o1_ xs m b1 xs1 xs2)/\ifB b
 (∃n n1 xs3 xs4 m1 b2 xs5 xs6,XC pg 190 [.one (.op 2000 0)] (o0_ xs m b1 xs1 xs2) (.dat (r3 n n1 xs3)) (o1_ xs4 m1 b2 xs5 xs6)/\.dat (r7 (false) n n1 xs3 (0:Int) (0:Int) [])=r/\(o1_ xs4 m1 b2 xs5 xs6)=O)
 (∃n2 n3 xs7 xs8 m2 b3 xs9 xs10,XC pg 190 [.one (.op 2000 0)] (o0_ xs m b1 xs1 xs2) (.dat (r3 n2 n3 xs7)) (o1_ xs8 m2 b3 xs9 xs10)/\∃b4 xs11 m3 b5 xs12 xs13,XC pg 146 [.one (.op 2000 0),T ⟨#[61]⟩] (o0_ xs8 m2 b3 xs9 xs10) (B b4) (o1_ xs11 m3 b5 xs12 xs13)/\ifB b4
 (∃n4 n5 xs14 xs15 m4 b6 xs16 xs17,XC pg 190 [.one (.op 2000 0)] (o0_ xs11 m3 b5 xs12 xs13) (.dat (r3 n4 n5 xs14)) (o1_ xs15 m4 b6 xs16 xs17)/\.dat (r7 b4 n2 n3 xs7 n4 n5 xs14)=r/\(o1_ xs15 m4 b6 xs16 xs17)=O)
 (∃b7 xs18 m5 b8 xs19 xs20,XC pg 146 [.one (.op 2000 0),T ⟨#[33,61]⟩] (o0_ xs11 m3 b5 xs12 xs13) (B b7) (o1_ xs18 m5 b8 xs19 xs20)/\ifB b7
 (∃n6 n7 xs21 xs22 m6 b9 xs23 xs24,XC pg 190 [.one (.op 2000 0)] (o0_ xs18 m5 b8 xs19 xs20) (.dat (r3 n6 n7 xs21)) (o1_ xs22 m6 b9 xs23 xs24)/\.dat (r7 b4 n2 n3 xs7 n6 n7 xs21)=r/\(o1_ xs22 m6 b9 xs23 xs24)=O)
 ((.dat (r7 (true) n2 n3 xs7 (0:Int) (0:Int) []))=r/\(o1_ xs18 m5 b8 xs19 xs20)=O)))):XC pg 148 [(.one (.op 2000 0))] (o5_ o2000 o20001 o20002 o20003 o20004) r O :=
 w9q (E:=env) (hs:=a7xq) (c:=(a2q Tryz.f148)) (n:=30) (res:=[.cell 2 54]) (rs:=.d [.b,(.i .i64),(.i .i64),.l,(.i .i64),(.i .i64),.l]) (ks:=[(2000,(true)),(2001,(false)),(2002,(false))]) (dir:=[2000]) envOk a5q [(2000,2000),(2001,1001),(2002,1002)] [] (by kernel_rfl) rfl Tryz.func148 (by kernel_rfl) (by kernel_rfl) (by kernel_rfl) (by kernel_rfl) (a4q (by kernel_rfl) h)
def S3q:b4q:=⟨[(2,⟨[0,3],[],[],[],[],[],[]⟩)],[]⟩
def n8q (r:AV) (O:List (Nat×Ob)) (s:ByteArray) (i:Int):Prop:=CLk 40 env S3q (a2q Tryz.f149) [1,0,1,0,0] (e0q env [.tmp 2] (.c .b) [] [] r O) ⟨[(0,(T s)),(3,(Z i))],[]⟩
theorem U5q {r:AV} {O:List (Nat×Ob)} {s:ByteArray} {i:Int} (h:ifB (decide (i<(s.size:Int)))
 (∃n:Nat,∃b:UInt8,i=n/\(s[n]?)=some b/\ifB (decide ((97:Int)<=(↑(a9z b):Int)))
 (∃n1:Nat,∃b1:UInt8,i=n1/\(s[n1]?)=some b1/\ifB (decide ((↑(a9z b1):Int)<=122))
 (n8q r O s (a0z .i64 (i+1)))
 (ifB (decide ((0:Int)<i))
 (∃n2:Nat,∃b2:UInt8,i=n2/\(s[n2]?)=some b2/\ifB (decide ((48:Int)<=(↑(a9z b2):Int)))
 (∃n3:Nat,∃b3:UInt8,i=n3/\(s[n3]?)=some b3/\ifB (!decide ((↑(a9z b3):Int)<=57))
 (B false=r/\[]=O)
 (n8q r O s (a0z .i64 (i+1))))
 (B false=r/\[]=O))
 (B false=r/\[]=O)))
 (ifB (decide ((0:Int)<i))
 (∃n4:Nat,∃b4:UInt8,i=n4/\(s[n4]?)=some b4/\ifB (decide ((48:Int)<=(↑(a9z b4):Int)))
 (∃n5:Nat,∃b5:UInt8,i=n5/\(s[n5]?)=some b5/\ifB (!decide ((↑(a9z b5):Int)<=57))
 (B false=r/\[]=O)
 (n8q r O s (a0z .i64 (i+1))))
 (B false=r/\[]=O))
 (B false=r/\[]=O)))
 (∃b6,XC pg 95 [Z (s.size:Int),Z 1,Z 8] [] (B b6) []/\B b6=r/\[]=O)):n8q r O s i:=by
 unfold n8q CLk
 refine c6q (E:=env) (hs:=S3q) envOk a5q ?_
 exact a4q (by kernel_rfl) h
theorem a6qq {s:ByteArray} {r:AV} {O:List (Nat×Ob)} (h:n8q r O s (0:Int)):XC pg 149 [(T s)] [] r O :=
 c1q (E:=env) (hs:=S3q) (c:=(a2q Tryz.f149)) (n:=40) (res:=[.tmp 2]) (rs:=.c .b) (ks:=[]) (dir:=[]) envOk a5q rfl Tryz.func149 (by kernel_rfl) (by kernel_rfl) (by kernel_rfl) (by kernel_rfl) (a4q (by kernel_rfl) h)
def Z4q:b4q:=⟨[(2,⟨[0,1,5],[],[],[],[],[],[]⟩)],[]⟩
def B7q (r:AV) (O:List (Nat×Ob)) (s:LL) (name:ByteArray) (i:Int):Prop:=CLk 20 env Z4q (a2q Tryz.f150) [1,0,1,0,0] (e0q env [.tmp 4] (.c (.i .i64)) [] [] r O) ⟨[(0,(L s)),(1,(T name)),(5,(Z i))],[]⟩
theorem X0q {r:AV} {O:List (Nat×Ob)} {s:LL} {name:ByteArray} {i:Int} (h:ifB (decide (i<(s.length:Int)))
 (∃m:Nat,i=m/\∃q n b,(s[m]?)=some [.str q,.int .i64 n,.bool b]/\ifB (decide (q=name))
 (Z i=r/\[]=O)
 (B7q r O s name (a0z .i64 (i+1))))
 ((Z (-1:Int))=r/\[]=O)):B7q r O s name i:=by
 unfold B7q CLk
 refine c6q (E:=env) (hs:=Z4q) envOk a5q ?_
 exact a4q (by kernel_rfl) h
theorem a76q {s:LL} {name:ByteArray} {r:AV} {O:List (Nat×Ob)} (h:B7q r O s name (0:Int)):XC pg 150 [(L s),(T name)] [] r O :=
 c1q (E:=env) (hs:=Z4q) (c:=(a2q Tryz.f150)) (n:=20) (res:=[.tmp 4]) (rs:=.c (.i .i64)) (ks:=[]) (dir:=[]) envOk a5q rfl Tryz.func150 (by kernel_rfl) (by kernel_rfl) (by kernel_rfl) (by kernel_rfl) (a4q (by kernel_rfl) h)
def a5Iq:b4q:=⟨[],[]⟩
theorem a4pq {s:LL} {pos:Bool} {a a1:Int} {a2:LL} {b b1:Int} {b2:LL} {r:AV} {O:List (Nat×Ob)} (h:∃n n1 xs,XC pg 117 [L s,.dat (r3 a a1 a2)] [] (.dat (r3 n n1 xs)) []/\∃n2 n3 xs1,XC pg 117 [L s,.dat (r3 b b1 b2)] [] (.dat (r3 n2 n3 xs1)) []/\∃b3,XC pg 118 [.dat (r3 n n1 xs),.dat (r3 n2 n3 xs1)] [] (B b3) []/\ifB b3
 ((.dat (r7 pos n2 n3 xs1 n n1 xs))=r/\[]=O)
 ((.dat (r7 pos n n1 xs n2 n3 xs1))=r/\[]=O)):XC pg 64 [(L s),(B pos),(.dat [(.int .i64 a),(.int .i64 a1),(.sl a2)]),(.dat [(.int .i64 b),(.int .i64 b1),(.sl b2)])] [] r O :=
 c1q (E:=env) (hs:=a5Iq) (c:=(a2q Tryz.f64)) (n:=28) (res:=[.cell 8 54]) (rs:=.d [.b,(.i .i64),(.i .i64),.l,(.i .i64),(.i .i64),.l]) (ks:=[]) (dir:=[]) envOk a5q rfl Tryz.func64 (by kernel_rfl) (by kernel_rfl) (by kernel_rfl) (by kernel_rfl) (a4q (by kernel_rfl) h)
def a49q:b4q:=⟨[],[]⟩
theorem a3lq {a:Bool} {a1 a2:Int} {a3:LL} {a4 a5:Int} {a6:LL} {b:Bool} {b1 b2:Int} {b3:LL} {b4 b5:Int} {b6:LL} {r:AV} {O:List (Nat×Ob)} (h:ifB (decide (a≠b))
 (B b=r/\[]=O)
 (∃b7,XC pg 119 [.dat (r3 a1 a2 a3),.dat (r3 b1 b2 b3)] [] (B b7) []/\ifB (!b7)
 (∃b8,XC pg 118 [.dat (r3 a1 a2 a3),.dat (r3 b1 b2 b3)] [] (B b8) []/\B b8=r/\[]=O)
 (∃b9,XC pg 118 [.dat (r3 a4 a5 a6),.dat (r3 b4 b5 b6)] [] (B b9) []/\B b9=r/\[]=O))):XC pg 65 [(.dat [(.bool a),(.int .i64 a1),(.int .i64 a2),(.sl a3),(.int .i64 a4),(.int .i64 a5),(.sl a6)]),(.dat [(.bool b),(.int .i64 b1),(.int .i64 b2),(.sl b3),(.int .i64 b4),(.int .i64 b5),(.sl b6)])] [] r O :=
 c1q (E:=env) (hs:=a49q) (c:=(a2q Tryz.f65)) (n:=28) (res:=[.tmp 4]) (rs:=.c .b) (ks:=[]) (dir:=[]) envOk a5q rfl Tryz.func65 (by kernel_rfl) (by kernel_rfl) (by kernel_rfl) (by kernel_rfl) (a4q (by kernel_rfl) h)
def a5xq:b4q:=⟨[],[]⟩
theorem a5bq {a:Bool} {a1 a2:Int} {a3:LL} {a4 a5:Int} {a6:LL} {b:Bool} {b1 b2:Int} {b3:LL} {b4 b5:Int} {b6:LL} {r:AV} {O:List (Nat×Ob)} (h:ifB (decide (a=b))
 (∃b7,XC pg 119 [.dat (r3 a1 a2 a3),.dat (r3 b1 b2 b3)] [] (B b7) []/\ifB b7
 (∃b8,XC pg 119 [.dat (r3 a4 a5 a6),.dat (r3 b4 b5 b6)] [] (B b8) []/\B b8=r/\[]=O)
 (B false=r/\[]=O))
 (B false=r/\[]=O)):XC pg 66 [(.dat [(.bool a),(.int .i64 a1),(.int .i64 a2),(.sl a3),(.int .i64 a4),(.int .i64 a5),(.sl a6)]),(.dat [(.bool b),(.int .i64 b1),(.int .i64 b2),(.sl b3),(.int .i64 b4),(.int .i64 b5),(.sl b6)])] [] r O :=
 c1q (E:=env) (hs:=a5xq) (c:=(a2q Tryz.f66)) (n:=24) (res:=[.tmp 4]) (rs:=.c .b) (ks:=[]) (dir:=[]) envOk a5q rfl Tryz.func66 (by kernel_rfl) (by kernel_rfl) (by kernel_rfl) (by kernel_rfl) (a4q (by kernel_rfl) h)
def a9oq:b4q:=⟨[],[]⟩
theorem a7Gq {s:LL} {l:Bool} {l1 l2:Int} {l3:LL} {l4 l5:Int} {l6:LL} {r:AV} {O:List (Nat×Ob)} (h:∃b,XC pg 128 [L s,.dat (r3 l1 l2 l3)] [] (B b) []/\ifB b
 (∃b1,XC pg 128 [L s,.dat (r3 l4 l5 l6)] [] (B b1) []/\ifB b1
 (∃b2,XC pg 118 [.dat (r3 l1 l2 l3),.dat (r3 l4 l5 l6)] [] (B b2) []/\(B (!b2))=r/\[]=O)
 (B false=r/\[]=O))
 (B false=r/\[]=O)):XC pg 77 [(L s),(.dat [(.bool l),(.int .i64 l1),(.int .i64 l2),(.sl l3),(.int .i64 l4),(.int .i64 l5),(.sl l6)])] [] r O :=
 c1q (E:=env) (hs:=a9oq) (c:=(a2q Tryz.f77)) (n:=23) (res:=[.tmp 4]) (rs:=.c .b) (ks:=[]) (dir:=[]) envOk a5q rfl Tryz.func77 (by kernel_rfl) (by kernel_rfl) (by kernel_rfl) (by kernel_rfl) (a4q (by kernel_rfl) h)
def a1Zq:b4q:=⟨[],[]⟩
theorem a1mq {s prefix_:ByteArray} {r:AV} {O:List (Nat×Ob)} (h:∃b,XC pg 183 [T s,T prefix_] [] (B b) []/\B b=r/\[]=O):XC pg 139 [(T s),(T prefix_)] [] r O :=
 c1q (E:=env) (hs:=a1Zq) (c:=(a2q Tryz.f139)) (n:=8) (res:=[.tmp 4]) (rs:=.c .b) (ks:=[]) (dir:=[]) envOk a5q rfl Tryz.func139 (by kernel_rfl) (by kernel_rfl) (by kernel_rfl) (by kernel_rfl) (a4q (by kernel_rfl) h)
def a3rq:b4q:=⟨[],[]⟩
theorem a2uq {c:Int} {r:AV} {O:List (Nat×Ob)} (h:∃b,XC pg 152 [I .u8 c] [] (B b) []/\ifB b
 (B true=r/\[]=O)
 (∃b1,XC pg 153 [I .u8 c] [] (B b1) []/\ifB b1
 (B true=r/\[]=O)
 (ifB (decide ((65:Int)<=c))
 ((B (decide (c<=90)))=r/\[]=O)
 (B false=r/\[]=O)))):XC pg 140 [(I .u8 c)] [] r O :=
 c1q (E:=env) (hs:=a3rq) (c:=(a2q Tryz.f140)) (n:=17) (res:=[.tmp 2]) (rs:=.c .b) (ks:=[]) (dir:=[]) envOk a5q rfl Tryz.func140 (by kernel_rfl) (by kernel_rfl) (by kernel_rfl) (by kernel_rfl) (a4q (by kernel_rfl) h)
def a24q:b4q:=⟨[],[]⟩
theorem a1rq {s:ByteArray} {c:Int} {r:AV} {O:List (Nat×Ob)} (h:∃n,XC pg 184 [T s,I .u8 c] [] (Z n) []/\Z n=r/\[]=O):XC pg 141 [(T s),(I .u8 c)] [] r O :=
 c1q (E:=env) (hs:=a24q) (c:=(a2q Tryz.f141)) (n:=8) (res:=[.tmp 4]) (rs:=.c (.i .i64)) (ks:=[]) (dir:=[]) envOk a5q rfl Tryz.func141 (by kernel_rfl) (by kernel_rfl) (by kernel_rfl) (by kernel_rfl) (a4q (by kernel_rfl) h)
def a2Aq:b4q:=⟨[],[]⟩
theorem a21q {o2000:LL} {o20001:Int} {o20002:Bool} {o20003:LL} {r:AV} {O:List (Nat×Ob)} (h:ifB (decide ((o2000.length:Int)<=o20001))
 ((T ⟨#[]⟩)=r/\(o3_ o2000 o20001 o20002 o20003)=O)
 (∃m:Nat,o20001=m/\∃q,(o2000[m]?)=some [.str q]/\T q=r/\(o3_ o2000 o20001 o20002 o20003)=O)):XC pg 142 [(.one (.op 2000 0))] (o6_ o2000 o20001 o20002 o20003) r O :=
 w9q (E:=env) (hs:=a2Aq) (c:=(a2q Tryz.f142)) (n:=23) (res:=[.tmp 2]) (rs:=.c .s) (ks:=[(2000,(true)),(2001,(false))]) (dir:=[2000]) envOk a5q [(2000,2000),(2001,1001)] [] (by kernel_rfl) rfl Tryz.func142 (by kernel_rfl) (by kernel_rfl) (by kernel_rfl) (by kernel_rfl) (a4q (by kernel_rfl) h)
def S2q:b4q:=⟨[(2,⟨[0,5,6],[],[],[],[],[],[]⟩)],[]⟩
def r6q (r:AV) (O:List (Nat×Ob)) (s:ByteArray) (s5 s6:Int):Prop:=CLk 30 env S2q (a2q Tryz.f98) [1,0,1,0,0] (e0q env [.tmp 2] (.c .b) [] [] r O) ⟨[(0,(T s)),(5,(Z s5)),(6,(Z s6))],[]⟩
theorem T9q {r:AV} {O:List (Nat×Ob)} {s:ByteArray} {s5 s6:Int} (h:ifB (decide (s6<s5))
 (∃n:Nat,∃b:UInt8,s6=n/\(s[n]?)=some b/\∃b1,XC pg 152 [I .u8 (↑(a9z b):Int)] [] (B b1) []/\ifB (!b1)
 (∃n1:Nat,∃b2:UInt8,s6=n1/\(s[n1]?)=some b2/\∃b3,XC pg 153 [I .u8 (↑(a9z b2):Int)] [] (B b3) []/\ifB (!b3)
 (B false=r/\[]=O)
 (r6q r O s s5 (a0z .i64 (s6+1))))
 (r6q r O s s5 (a0z .i64 (s6+1))))
 (∃b4,XC pg 89 [Z (s.size:Int),Z 1,Z 8] [] (B b4) []/\ifB b4
 (∃n2:Nat,∃b5:UInt8,(0:Int)=(n2:Int)/\(s[n2]?)=some b5/\∃b6,XC pg 152 [I .u8 (↑(a9z b5):Int)] [] (B b6) []/\B b6=r/\[]=O)
 (B false=r/\[]=O))):r6q r O s s5 s6:=by
 unfold r6q CLk
 refine c6q (E:=env) (hs:=S2q) envOk a5q ?_
 exact a4q (by kernel_rfl) h
theorem a64q {s:ByteArray} {r:AV} {O:List (Nat×Ob)} (h:r6q r O s (s.size:Int) (0:Int)):XC pg 98 [(T s)] [] r O :=
 c1q (E:=env) (hs:=S2q) (c:=(a2q Tryz.f98)) (n:=30) (res:=[.tmp 2]) (rs:=.c .b) (ks:=[]) (dir:=[]) envOk a5q rfl Tryz.func98 (by kernel_rfl) (by kernel_rfl) (by kernel_rfl) (by kernel_rfl) (a4q (by kernel_rfl) h)
def a91q:b4q:=⟨[],[]⟩
theorem a7Kq {s:LL} {name:ByteArray} {r:AV} {O:List (Nat×Ob)} (h:∃n q,XC pg 154 [L s,.one (.clo 155 [(2000,0)])] [(2000,.var [.d (.str name)])] (Z n) [(2000,.var [.d (.str q)])]/\Z n=r/\[]=O):XC pg 99 [(L s),(T name)] [] r O :=
 c1q (E:=env) (hs:=a91q) (c:=(a2q Tryz.f99)) (n:=8) (res:=[.tmp 4]) (rs:=.c (.i .i64)) (ks:=[]) (dir:=[]) envOk a5q rfl Tryz.func99 (by kernel_rfl) (by kernel_rfl) (by kernel_rfl) (by kernel_rfl) (a4q (by kernel_rfl) h)
def F6q:b4q:=⟨[(14,⟨[0,2,3,8,9,10],[],[],[],[],[10],[]⟩)],[]⟩
def l3q (r:AV) (O:List (Nat×Ob)) (s3:ByteArray) (s8:Int) (s9:Bool) (s0:LL) (s01:Int) (s02:Bool) (s2 s21:Int) (s10 s03:LL):Prop:=CLk 126 env F6q (a2q Tryz.f143) [1,1,1,1,1,1,1,1,0,1,0,0,0,0] (M0q env [.cell 2 52] (.d [(.i .i64),(.i .i64),.l]) [(2000,(true)),(2001,(false))] [2000] r O) ⟨[(0,(.one (.op 2000 0))),(2,(.one (.op 1900 0))),(3,(T s3)),(8,(Z s8)),(9,(B s9)),(10,(.one (.ol 1901)))],[(2000,(.var [(.d (.sl s0)),(.d (.int .i64 s01)),(.ol 1902),(.d (.bool s02))])),(1900,(.var [(.d (.int .i64 s2)),(.d (.int .i64 s21)),.e0])),(1901,(.lst 52 3 s10)),(1902,(.tr 104 3 s03))]⟩
theorem a00q {r:AV} {O:List (Nat×Ob)} {s3:ByteArray} {s8:Int} {s9:Bool} {s0:LL} {s01:Int} {s02:Bool} {s2 s21:Int} {s10 s03:LL} (h:ifB (!s02)
 (∃n n1 xs xs1 m xs2 b,XC pg 143 [.one (.op 2000 0)] (o2_ s0 s01 s02 s03) (.dat (r3 n n1 xs)) (o3_ xs1 m b xs2)/\Do ((s10.length+a2z [(r3 n n1 xs)])*40<=140737488355328)/\∃b1 xs3 m1 xs4 b2,XC pg 85 [.one (.op 2000 0),T ⟨#[44]⟩] (o2_ xs1 m b xs2) (B b1) (o3_ xs3 m1 b2 xs4)/\ifB (!b1)
 (∃xs5 m2 xs6 b3,XC pg 88 [.one (.op 2000 0),T ⟨#[41]⟩] (o2_ xs3 m1 b2 xs4) (.tup []) (o3_ xs5 m2 b3 xs6)/\ifB s9
 (∃m3:Nat,s8=m3/\Do (m3<xs6.length)/\∃n2:Nat,(m3*3+1)=(n2*3+1)/\∃q n3 b4,(xs6[n2]?)=some [.str q,.int .i64 n3,.bool b4]/\ifB (decide (n3=(-1:Int)))
 (∃m4:Nat,s8=m4/\Do (m4<xs6.length)/\∃m5:Nat,(m4*3+1)=(m5*3+1)/\∃q1 n4 b5,(xs6[m5]?)=some [.str q1,.int .i64 n4,.bool b5]/\∃n5 xs7 m6 xs8 b6,XC pg 188 [.one (.op 2000 0),T s3,Z ((s10++[(r3 n n1 xs)]).length:Int)] [(2000,.var [.d (.sl xs5),.d (.int .i64 m2),.ol 2001,.d (.bool b3)]),(2001,.tr 104 3 (a3z xs6 m5 ([Da.str q1]++[Da.int a1z ((s10++[(r3 n n1 xs)]).length:Int)]++[Da.bool b5])))] (Z n5) (o3_ xs7 m6 b6 xs8)/\.dat (r3 n5 (0:Int) (s10++[(r3 n n1 xs)]))=r/\(o3_ xs7 m6 b6 xs8)=O)
 (∃n6 xs9 m7 xs10 b7,XC pg 188 [.one (.op 2000 0),T s3,Z ((s10++[(r3 n n1 xs)]).length:Int)] (o2_ xs5 m2 b3 xs6) (Z n6) (o3_ xs9 m7 b7 xs10)/\.dat (r3 n6 (0:Int) (s10++[(r3 n n1 xs)]))=r/\(o3_ xs9 m7 b7 xs10)=O))
 (∃n7 xs11 m8 xs12 b8,XC pg 188 [.one (.op 2000 0),T s3,Z ((s10++[(r3 n n1 xs)]).length:Int)] (o2_ xs5 m2 b3 xs6) (Z n7) (o3_ xs11 m8 b8 xs12)/\.dat (r3 n7 (0:Int) (s10++[(r3 n n1 xs)]))=r/\(o3_ xs11 m8 b8 xs12)=O))
 (l3q r O s3 s8 s9 xs3 m1 b2 s2 s21 (s10++[(r3 n n1 xs)]) xs4))
 (∃xs13 m9 xs14 b9,XC pg 88 [.one (.op 2000 0),T ⟨#[41]⟩] (o2_ s0 s01 s02 s03) (.tup []) (o3_ xs13 m9 b9 xs14)/\ifB s9
 (∃m10:Nat,s8=m10/\Do (m10<xs14.length)/\∃n8:Nat,(m10*3+1)=(n8*3+1)/\∃q2 n9 b10,(xs14[n8]?)=some [.str q2,.int .i64 n9,.bool b10]/\ifB (decide (n9=(-1:Int)))
 (∃m11:Nat,s8=m11/\Do (m11<xs14.length)/\∃m12:Nat,(m11*3+1)=(m12*3+1)/\∃q3 n10 b11,(xs14[m12]?)=some [.str q3,.int .i64 n10,.bool b11]/\∃n11 xs15 m13 xs16 b12,XC pg 188 [.one (.op 2000 0),T s3,Z (s10.length:Int)] (o2_ xs13 m9 b9 (a3z xs14 m12 ([Da.str q3]++[Da.int a1z (s10.length:Int)]++[Da.bool b11]))) (Z n11) (o3_ xs15 m13 b12 xs16)/\.dat (r3 n11 (0:Int) s10)=r/\(o3_ xs15 m13 b12 xs16)=O)
 (∃n12 xs17 m14 xs18 b13,XC pg 188 [.one (.op 2000 0),T s3,Z (s10.length:Int)] (o2_ xs13 m9 b9 xs14) (Z n12) (o3_ xs17 m14 b13 xs18)/\.dat (r3 n12 (0:Int) s10)=r/\(o3_ xs17 m14 b13 xs18)=O))
 (∃n13 xs19 m15 xs20 b14,XC pg 188 [.one (.op 2000 0),T s3,Z (s10.length:Int)] (o2_ xs13 m9 b9 xs14) (Z n13) (o3_ xs19 m15 b14 xs20)/\.dat (r3 n13 (0:Int) s10)=r/\(o3_ xs19 m15 b14 xs20)=O))):l3q r O s3 s8 s9 s0 s01 s02 s2 s21 s10 s03:=by
 unfold l3q CLk
 refine c6q (E:=env) (hs:=F6q) envOk a5q ?_
 exact a4q (by kernel_rfl) h
theorem a1Wq {o2000:LL} {o20001:Int} {o20002:Bool} {o20003:LL} {r:AV} {O:List (Nat×Ob)} (h:∃q xs m xs1 b,XC pg 142 [.one (.op 2000 0)] (o2_ o2000 o20001 o20002 o20003) (T q) (o3_ xs m b xs1)/\∃q1 b1,XC pg 185 [T q,T ⟨#[88]⟩] [] (.tup [T q1,B b1]) []/\ifB b1
 (∃n b2,XC pg 186 [T q1] [] (.tup [Z n,B b2]) []/\ifB b
 (∃n1 n2,XC pg 187 [Z n] [] (.agg [.d (.int .i64 n1),.d (.int .i64 n2),.e0]) []/\.dat (r3 n1 n2 [])=r/\(o3_ xs (a0z .i64 (m+1)) true xs1)=O)
 (ifB (!b2)
 (∃n3 n4,XC pg 187 [Z n] [] (.agg [.d (.int .i64 n3),.d (.int .i64 n4),.e0]) []/\.dat (r3 n3 n4 [])=r/\(o3_ xs (a0z .i64 (m+1)) true xs1)=O)
 (∃n5 n6,XC pg 187 [Z n] [] (.agg [.d (.int .i64 n5),.d (.int .i64 n6),.e0]) []/\.dat (r3 n5 n6 [])=r/\(o3_ xs (a0z .i64 (m+1)) (decide ((19:Int)<n)) xs1)=O)))
 (∃n7,XC pg 99 [L xs1,T q] [] (Z n7) []/\ifB (decide (n7<0))
 (∃b3,XC pg 98 [T q] [] (B b3) []/\ifB b3
 (Do ((xs1.length+a2z [[Da.str q,Da.int a1z (-1:Int),Da.bool false]])*32<=140737488355328)/\∃b4 xs2 m1 xs3 b5,XC pg 85 [.one (.op 2000 0),T ⟨#[40]⟩] (o2_ xs (a0z .i64 (m+1)) b (xs1++[[Da.str q,Da.int a1z (-1:Int),Da.bool false]])) (B b4) (o3_ xs2 m1 b5 xs3)/\ifB b4
 (l3q r O q (xs1.length:Int) b3 xs2 m1 b5 (0:Int) (0:Int) [] xs3)
 (ifB b3
 (∃m2:Nat,(xs1.length:Int)=(m2:Int)/\Do (m2<xs3.length)/\∃n8:Nat,(m2*3+1)=(n8*3+1)/\∃q2 n9 b6,(xs3[n8]?)=some [.str q2,.int .i64 n9,.bool b6]/\ifB (decide (n9=(-1:Int)))
 (∃m3:Nat,(xs1.length:Int)=(m3:Int)/\Do (m3<xs3.length)/\∃m4:Nat,(m3*3+1)=(m4*3+1)/\∃q3 n10 b7,(xs3[m4]?)=some [.str q3,.int .i64 n10,.bool b7]/\∃n11 xs4 m5 xs5 b8,XC pg 188 [.one (.op 2000 0),T q,Z (([]:LL).length:Int)] [(2000,.var [.d (.sl xs2),.d (.int .i64 m1),.ol 2001,.d (.bool b5)]),(2001,.tr 104 3 (a3z xs3 m4 ([Da.str q3]++[Da.int a1z (([]:LL).length:Int)]++[Da.bool b7])))] (Z n11) (o3_ xs4 m5 b8 xs5)/\.dat (r3 n11 (0:Int) [])=r/\(o3_ xs4 m5 b8 xs5)=O)
 (∃n12 xs6 m6 xs7 b9,XC pg 188 [.one (.op 2000 0),T q,Z (([]:LL).length:Int)] (o2_ xs2 m1 b5 xs3) (Z n12) (o3_ xs6 m6 b9 xs7)/\.dat (r3 n12 (0:Int) [])=r/\(o3_ xs6 m6 b9 xs7)=O))
 (∃n13 xs8 m7 xs9 b10,XC pg 188 [.one (.op 2000 0),T q,Z (([]:LL).length:Int)] (o2_ xs2 m1 b5 xs3) (Z n13) (o3_ xs8 m7 b10 xs9)/\.dat (r3 n13 (0:Int) [])=r/\(o3_ xs8 m7 b10 xs9)=O)))
 (∃b11 xs10 m8 xs11 b12,XC pg 85 [.one (.op 2000 0),T ⟨#[40]⟩] (o2_ xs (a0z .i64 (m+1)) b xs1) (B b11) (o3_ xs10 m8 b12 xs11)/\ifB b11
 (l3q r O q (xs1.length:Int) b3 xs10 m8 b12 (0:Int) (0:Int) [] xs11)
 (ifB b3
 (∃m9:Nat,(xs1.length:Int)=(m9:Int)/\Do (m9<xs11.length)/\∃n14:Nat,(m9*3+1)=(n14*3+1)/\∃q4 n15 b13,(xs11[n14]?)=some [.str q4,.int .i64 n15,.bool b13]/\ifB (decide (n15=(-1:Int)))
 (∃m10:Nat,(xs1.length:Int)=(m10:Int)/\Do (m10<xs11.length)/\∃m11:Nat,(m10*3+1)=(m11*3+1)/\∃q5 n16 b14,(xs11[m11]?)=some [.str q5,.int .i64 n16,.bool b14]/\∃n17 xs12 m12 xs13 b15,XC pg 188 [.one (.op 2000 0),T q,Z (([]:LL).length:Int)] [(2000,.var [.d (.sl xs10),.d (.int .i64 m8),.ol 2001,.d (.bool b12)]),(2001,.tr 104 3 (a3z xs11 m11 ([Da.str q5]++[Da.int a1z (([]:LL).length:Int)]++[Da.bool b14])))] (Z n17) (o3_ xs12 m12 b15 xs13)/\.dat (r3 n17 (0:Int) [])=r/\(o3_ xs12 m12 b15 xs13)=O)
 (∃n18 xs14 m13 xs15 b16,XC pg 188 [.one (.op 2000 0),T q,Z (([]:LL).length:Int)] (o2_ xs10 m8 b12 xs11) (Z n18) (o3_ xs14 m13 b16 xs15)/\.dat (r3 n18 (0:Int) [])=r/\(o3_ xs14 m13 b16 xs15)=O))
 (∃n19 xs16 m14 xs17 b17,XC pg 188 [.one (.op 2000 0),T q,Z (([]:LL).length:Int)] (o2_ xs10 m8 b12 xs11) (Z n19) (o3_ xs16 m14 b17 xs17)/\.dat (r3 n19 (0:Int) [])=r/\(o3_ xs16 m14 b17 xs17)=O))))
 (∃b18 xs18 m15 xs19 b19,XC pg 85 [.one (.op 2000 0),T ⟨#[40]⟩] (o2_ xs (a0z .i64 (m+1)) b xs1) (B b18) (o3_ xs18 m15 b19 xs19)/\ifB b18
 (l3q r O q (xs1.length:Int) (false) xs18 m15 b19 (0:Int) (0:Int) [] xs19)
 (∃n20 xs20 m16 xs21 b20,XC pg 188 [.one (.op 2000 0),T q,Z (([]:LL).length:Int)] (o2_ xs18 m15 b19 xs19) (Z n20) (o3_ xs20 m16 b20 xs21)/\.dat (r3 n20 (0:Int) [])=r/\(o3_ xs20 m16 b20 xs21)=O)))):XC pg 143 [(.one (.op 2000 0))] (o6_ o2000 o20001 o20002 o20003) r O :=
 w9q (E:=env) (hs:=F6q) (c:=(a2q Tryz.f143)) (n:=126) (res:=[.cell 2 52]) (rs:=.d [(.i .i64),(.i .i64),.l]) (ks:=[(2000,(true)),(2001,(false))]) (dir:=[2000]) envOk a5q [(2000,2000),(2001,1001)] [] (by kernel_rfl) rfl Tryz.func143 (by kernel_rfl) (by kernel_rfl) (by kernel_rfl) (by kernel_rfl) (a4q (by kernel_rfl) h)
def a6nq:b4q:=⟨[],[]⟩
theorem a4Xq {s:LL} {pos:Bool} {a a1:Int} {a2:LL} {b b1:Int} {b2:LL} {r:AV} {O:List (Nat×Ob)} (h:∃n n1 xs,XC pg 109 [L s,.dat (r3 a a1 a2)] [] (g3 n n1 0) [(0,.tr 52 3 xs)]/\∃n2 n3 xs1,XC pg 109 [L s,.dat (r3 b b1 b2)] [] (g3 n2 n3 0) [(0,.tr 52 3 xs1)]/\∃b3,XC pg 110 [.dat (r3 n n1 xs),.dat (r3 n2 n3 xs1)] [] (B b3) []/\ifB b3
 ((g7 pos n2 n3 0 n n1 1)=r/\[(0,.tr 52 3 xs1),(1,.tr 52 3 xs)]=O)
 ((g7 pos n n1 0 n2 n3 1)=r/\[(0,.tr 52 3 xs),(1,.tr 52 3 xs1)]=O)):XC pg 52 [(L s),(B pos),(.dat [(.int .i64 a),(.int .i64 a1),(.sl a2)]),(.dat [(.int .i64 b),(.int .i64 b1),(.sl b2)])] [] r O :=
 c1q (E:=env) (hs:=a6nq) (c:=(a2q Tryz.f52)) (n:=26) (res:=[.cell 8 54]) (rs:=.s [.k .b,.k (.i .i64),.k (.i .i64),.o 52 3,.k (.i .i64),.k (.i .i64),.o 52 3]) (ks:=[]) (dir:=[]) envOk a5q rfl Tryz.func52 (by kernel_rfl) (by kernel_rfl) (by kernel_rfl) (by kernel_rfl) (a4q (by kernel_rfl) h)
def y1q:b4q:=⟨[],[]⟩
theorem x3q {o2000:LL} {r:AV} {O:List (Nat×Ob)} (h:∃xs,XC pg 111 [.one (.ol 2000),Z (o2000.length:Int),.one (.d (.fn 54))] [(2000,.lst 54 7 o2000)] (.tup []) [(2000,.lst 54 7 xs)]/\.tup []=r/\[(2000,.lst 54 7 xs)]=O):XC pg 53 [(.one (.ol 2000)),(.one (.d (.fn 54)))] [(2000,(.lst 54 7 o2000))] r O :=
 c1q (E:=d0q) (hs:=y1q) (c:=(a2q Tryz.f53)) (n:=9) (res:=[]) (rs:=.t []) (ks:=[(2000,(false))]) (dir:=[2000]) g7q a5q rfl Tryz.func53 (by kernel_rfl) (by kernel_rfl) (by kernel_rfl) (by kernel_rfl) (a4q (by kernel_rfl) h)
def h7q:b4q:=⟨[(4,⟨[0,1,5],[],[],[],[],[],[]⟩),(9,⟨[0,1,5,6,7],[],[],[],[],[],[]⟩)],[]⟩
def h3q (r:AV) (O:List (Nat×Ob)) (s5:Int) (s0:LL):Prop:=CLk 66 d0q h7q (a2q Tryz.f55) [1,1,0,1,0,0] (M0q d0q [.tmp 4] (.b 54 7) [(2000,(false))] [] r O) ⟨[(0,(.one (.ol 1900))),(1,(.one (.d (.fn 56)))),(5,(Z s5))],[(1900,(.lst 54 7 s0))]⟩
def f7q (r:AV) (O:List (Nat×Ob)) (s5:Int) (s6 s61:Nat) (s7:Int) (s0:LL):Prop:=CLk 66 d0q h7q (a2q Tryz.f55) [1,1,0,1,0,0,1,0,0,1,0,1,0,1,0,0] (M0q d0q [.tmp 4] (.b 54 7) [(2000,(false))] [] r O) ⟨[(0,(.one (.ol 1900))),(1,(.one (.d (.fn 56)))),(5,(Z s5)),(6,(.one (.ps 1900 7 (s6) (s61)))),(7,(Z s7))],[(1900,(.lst 54 7 s0))]⟩
theorem p9q {r:AV} {O:List (Nat×Ob)} {s5:Int} {s0:LL} (h:ifB (decide (s5<(s0.length:Int)))
 (∃m:Nat,s5=m/\Do (m<s0.length)/\∃n:Nat,(m*7)=(n*7)/\∃b:Bool,∃n1 n2:Int,∃d:Da,∃n3 n4:Int,∃d1:Da,(s0[n]?)=some [.bool b,.int .i64 n1,.int .i64 n2,d,.int .i64 n3,.int .i64 n4,d1]/\∃m1:Nat,(a0z .i64 (s5-1))=(m1:Int)/\Do (m1<s0.length)/\∃n5:Nat,(m1*7)=(n5*7)/\∃b1:Bool,∃n6 n7:Int,∃d2:Da,∃n8 n9:Int,∃d3:Da,(s0[n5]?)=some [.bool b1,.int .i64 n6,.int .i64 n7,d2,.int .i64 n8,.int .i64 n9,d3]/\∃b2,XC pg 56 [.dat [.bool b,.int .i64 n1,.int .i64 n2,d,.int .i64 n3,.int .i64 n4,d1],.dat [.bool b1,.int .i64 n6,.int .i64 n7,d2,.int .i64 n8,.int .i64 n9,d3]] [] (B b2) []/\ifB b2
 (∃n10:Nat,s5=n10/\Do (n10<=s0.length/\s0.length<=s0.length)/\f7q r O s5 ((0:Nat)+n10) (s0.length-n10) (1:Int) s0)
 (h3q r O (a0z .i64 (s5+1)) s0))
 ((.one (.ol 0))=r/\[(0,.lst 54 7 s0)]=O)):h3q r O s5 s0:=by
 unfold h3q CLk
 refine c6q (E:=d0q) (hs:=h7q) g7q a5q ?_
 exact a4q (by kernel_rfl) h
theorem q0q {r:AV} {O:List (Nat×Ob)} {s5:Int} {s6 s61:Nat} {s7:Int} {s0:LL} (h:ifB (decide (s7<(s61:Int)))
 (∃m:Nat,s7=m/\Do (m<s61)/\∃n:Nat,((s6+m)*7)=(n*7)/\∃b:Bool,∃n1 n2:Int,∃d:Da,∃n3 n4:Int,∃d1:Da,(s0[n]?)=some [.bool b,.int .i64 n1,.int .i64 n2,d,.int .i64 n3,.int .i64 n4,d1]/\∃m1:Nat,(a0z .i64 (s7-1))=(m1:Int)/\Do (m1<s61)/\∃n5:Nat,((s6+m1)*7)=(n5*7)/\∃b1:Bool,∃n6 n7:Int,∃d2:Da,∃n8 n9:Int,∃d3:Da,(s0[n5]?)=some [.bool b1,.int .i64 n6,.int .i64 n7,d2,.int .i64 n8,.int .i64 n9,d3]/\∃b2,XC pg 56 [.dat [.bool b,.int .i64 n1,.int .i64 n2,d,.int .i64 n3,.int .i64 n4,d1],.dat [.bool b1,.int .i64 n6,.int .i64 n7,d2,.int .i64 n8,.int .i64 n9,d3]] [] (B b2) []/\ifB (!b2)
 (∃m2:Nat,s7=m2/\Do (m2<s61)/\∃n10:Nat,((s6+m2)*7)=(n10*7)/\∃b3:Bool,∃n11 n12:Int,∃d4:Da,∃n13 n14:Int,∃d5:Da,(s0[n10]?)=some [.bool b3,.int .i64 n11,.int .i64 n12,d4,.int .i64 n13,.int .i64 n14,d5]/\∃m3:Nat,s5=m3/\Do (m3<s0.length)/\∃m4:Nat,(m3*7)=(m4*7+0)/\∃b4:Bool,∃n15 n16:Int,∃d6:Da,∃n17 n18:Int,∃d7:Da,(s0[m4]?)=some [.bool b4,.int .i64 n15,.int .i64 n16,d6,.int .i64 n17,.int .i64 n18,d7]/\f7q r O (a0z .i64 (s5+1)) (s6) (s61) (a0z .i64 (s7+1)) (a3z s0 m4 ([]++[Da.bool b3,Da.int a1z n11,Da.int a1z n12,d4,Da.int a1z n13,Da.int a1z n14,d5]++[])))
 (f7q r O s5 (s6) (s61) (a0z .i64 (s7+1)) s0))
 (∃n19:Nat,s5=n19/\Do (n19<=s0.length/\s0.length<=s0.length)/\Do ((0:Nat)+n19+(s0.length-n19)<=s0.length)/\∃n20:Nat,s5=n20/\Do ((0:Nat)<=n20/\n20<=a2z (a7z ((0:Nat)+n19) s0++aoz (s0.length-n19) (r7 false (0:Int) (0:Int) [] (0:Int) (0:Int) [])++a8z ((0:Nat)+n19+(s0.length-n19)) s0))/\Do (n20-0<=a2z (a7z ((0:Nat)+n19) s0++aoz (s0.length-n19) (r7 false (0:Int) (0:Int) [] (0:Int) (0:Int) [])++a8z ((0:Nat)+n19+(s0.length-n19)) s0))/\(.one (.ol 0))=r/\[(0,.lst 54 7 (a7z (n20-0) (a7z ((0:Nat)+n19) s0++aoz (s0.length-n19) (r7 false (0:Int) (0:Int) [] (0:Int) (0:Int) [])++a8z ((0:Nat)+n19+(s0.length-n19)) s0)))]=O)):f7q r O s5 s6 s61 s7 s0:=by
 unfold f7q CLk
 refine c6q (E:=d0q) (hs:=h7q) g7q a5q ?_
 exact a4q (by kernel_rfl) h
theorem C4q {o2000:LL} {r:AV} {O:List (Nat×Ob)} (h:ifB (decide ((o2000.length:Int)<2))
 ((.one (.ol 0))=r/\[(0,.lst 54 7 o2000)]=O)
 (h3q r O (1:Int) o2000)):XC pg 55 [(.one (.ol 2000)),(.one (.d (.fn 56)))] [(2000,(.lst 54 7 o2000))] r O :=
 w9q (E:=d0q) (hs:=h7q) (c:=(a2q Tryz.f55)) (n:=66) (res:=[.tmp 4]) (rs:=.b 54 7) (ks:=[(2000,(false))]) (dir:=[]) g7q a5q [(2000,1000)] [] (by kernel_rfl) rfl Tryz.func55 (by kernel_rfl) (by kernel_rfl) (by kernel_rfl) (by kernel_rfl) (a4q (by kernel_rfl) h)
def m6q:b4q:=⟨[(2,⟨[0,1,7,8],[],[],[],[],[],[]⟩)],[]⟩
def h4q (r:AV) (O:List (Nat×Ob)) (s7 s8:Int) (s o2001:LL) (o20011:Int) (o20012:Bool) (o20013:LL):Prop:=CLk 19 env m6q (a2q Tryz.f144) [1,0,1,0,0] (e0q env [.tmp 4] (.c (.i .i64)) [(2000,(false)),(2001,(true)),(2002,(true)),(2003,(false))] [2000,2001] r O) ⟨[(0,(.one (.ol 2000))),(1,(.one (.clo 91 [(2001,0)]))),(7,(Z s7)),(8,(Z s8))],[(2000,(.tr 29 1 s)),(2001,(.var [(.op 2002 0)])),(2002,(.var [(.d (.sl o2001)),(.d (.int .i64 o20011)),(.ol 1900),(.d (.bool o20012))])),(1900,(.tr 104 3 o20013))]⟩
theorem k9q {r:AV} {O:List (Nat×Ob)} {s7 s8:Int} {s o2001:LL} {o20011:Int} {o20012:Bool} {o20013:LL} (h:ifB (decide (s8<s7))
 (∃m:Nat,s8=m/\Do (m<s.length)/\∃n:Nat,(m*1)=(n*1)/\∃xs,(s[n]?)=some [.sl xs]/\∃b xs1 m1 xs2 b1,XC pg 91 [.dat [.sl xs],.one (.op 2000 0)] [(2000,.var [.op 2001 0]),(2001,.var [.d (.sl o2001),.d (.int .i64 o20011),.ol 2002,.d (.bool o20012)]),(2002,.tr 104 3 o20013)] (B b) [(2000,.var [.op 2001 0]),(2001,.var [.d (.sl xs1),.d (.int .i64 m1),.ol 0,.d (.bool b1)]),(0,.tr 104 3 xs2)]/\ifB b
 (Z s8=r/\(o4_ s xs1 m1 b1 xs2)=O)
 (h4q r O s7 (a0z .i64 (s8+1)) s xs1 m1 b1 xs2))
 ((Z (-1:Int))=r/\(o4_ s o2001 o20011 o20012 o20013)=O)):h4q r O s7 s8 s o2001 o20011 o20012 o20013:=by
 unfold h4q CLk
 refine c6q (E:=env) (hs:=m6q) envOk a5q ?_
 exact a4q (by kernel_rfl) h
theorem C3q {o2000 o2001:LL} {o20011:Int} {o20012:Bool} {o20013:LL} {r:AV} {O:List (Nat×Ob)} (h:h4q r O (o2000.length:Int) (0:Int) o2000 o2001 o20011 o20012 o20013):XC pg 144 [(.one (.ol 2000)),(.one (.clo 91 [(2001,0)]))] [(2000,(.tr 29 1 o2000)),(2001,(.var [(.op 2002 0)])),(2002,(.var [(.d (.sl o2001)),(.d (.int .i64 o20011)),(.ol 2003),(.d (.bool o20012))])),(2003,(.tr 104 3 o20013))] r O :=
 c1q (E:=env) (hs:=m6q) (c:=(a2q Tryz.f144)) (n:=19) (res:=[.tmp 4]) (rs:=.c (.i .i64)) (ks:=[(2000,(false)),(2001,(true)),(2002,(true)),(2003,(false))]) (dir:=[2000,2001]) envOk a5q rfl Tryz.func144 (by kernel_rfl) (by kernel_rfl) (by kernel_rfl) (by kernel_rfl) (a4q (by kernel_rfl) h)
def T1q:b4q:=⟨[(4,⟨[0,1,5],[],[],[],[],[],[]⟩)],[]⟩
def z1q (r:AV) (O:List (Nat×Ob)) (a b:LL) (i:Int):Prop:=CLk 27 env T1q (a2q Tryz.f156) [1,1,0,1,0,0] (e0q env [.tmp 4] (.c .b) [] [] r O) ⟨[(0,(L a)),(1,(L b)),(5,(Z i))],[]⟩
theorem U1q {r:AV} {O:List (Nat×Ob)} {a b:LL} {i:Int} (h:ifB (decide (i<(a.length:Int)))
 (∃m:Nat,i=m/\∃b2 n n1 xs n2 n3 xs1,(a[m]?)=some (r7 b2 n n1 xs n2 n3 xs1)/\∃m1:Nat,i=m1/\∃b3 n4 n5 xs2 n6 n7 xs3,(b[m1]?)=some (r7 b3 n4 n5 xs2 n6 n7 xs3)/\∃b4,XC pg 191 [.dat (r7 b2 n n1 xs n2 n3 xs1),.dat (r7 b3 n4 n5 xs2 n6 n7 xs3)] [] (B b4) []/\ifB (!b4)
 (B false=r/\[]=O)
 (z1q r O a b (a0z .i64 (i+1))))
 (B true=r/\[]=O)):z1q r O a b i:=by
 unfold z1q CLk
 refine c6q (E:=env) (hs:=T1q) envOk a5q ?_
 exact a4q (by kernel_rfl) h
theorem a5Bq {a b:LL} {r:AV} {O:List (Nat×Ob)} (h:ifB (decide ((a.length:Int)≠(b.length:Int)))
 (B false=r/\[]=O)
 (z1q r O a b (0:Int))):XC pg 156 [(L a),(L b)] [] r O :=
 c1q (E:=env) (hs:=T1q) (c:=(a2q Tryz.f156)) (n:=27) (res:=[.tmp 4]) (rs:=.c .b) (ks:=[]) (dir:=[]) envOk a5q rfl Tryz.func156 (by kernel_rfl) (by kernel_rfl) (by kernel_rfl) (by kernel_rfl) (a4q (by kernel_rfl) h)
def I0q:b4q:=⟨[(2,⟨[0,1,5],[],[],[],[],[],[]⟩)],[]⟩
def t5q (r:AV) (O:List (Nat×Ob)) (k i:Int) (a:LL):Prop:=CLk 34 env I0q (a2q Tryz.f157) [1,0,1,0,0] (e0q env [.tmp 4] (.c (.i .i64)) [(2000,(false))] [2000] r O) ⟨[(0,(.one (.ol 2000))),(1,(Z k)),(5,(Z i))],[(2000,(.mt 52 3 a))]⟩
theorem M8q {r:AV} {O:List (Nat×Ob)} {k i:Int} {a:LL} (h:ifB (decide (i<(a.length:Int)))
 (∃m:Nat,i=m/\Do (m<a.length)/\∃m1:Nat,(m*3+0)=(m1*3+0)/\∃n n1 xs,(a[m1]?)=some (r3 n n1 xs)/\∃m2:Nat,i=m2/\Do (m2<a2z (a3z a m1 ([]++[Da.int a1z k]++[Da.int a1z n1,Da.sl xs])))/\∃m3:Nat,(m2*3+1)=(m3*3+1)/\∃n2 n3:Int,∃xs1:LL,((a3z a m1 ([]++[Da.int a1z k]++[Da.int a1z n1,Da.sl xs]))[m3]?)=some (r3 n2 n3 xs1)/\∃m4:Nat,i=m4/\Do (m4<a2z (a3z (a3z a m1 ([]++[Da.int a1z k]++[Da.int a1z n1,Da.sl xs])) m3 ([Da.int a1z n2]++[Da.int a1z (a0z .i64 (k+1))]++[Da.sl xs1])))/\∃m5:Nat,(m4*3+2)=(m5*3+2)/\∃n4 n5:Int,∃xs2:LL,((a3z (a3z a m1 ([]++[Da.int a1z k]++[Da.int a1z n1,Da.sl xs])) m3 ([Da.int a1z n2]++[Da.int a1z (a0z .i64 (k+1))]++[Da.sl xs1]))[m5]?)=some (r3 n4 n5 xs2)/\∀(a1:Option Addr),∀(l:Nat),∀(r1:Nat),(a1=a1/\(l)=(l)/\(r1)=(r1))/\∃n6 n7:Int,∃xs3:LL,((a3z (a3z a m1 ([]++[Da.int a1z k]++[Da.int a1z n1,Da.sl xs])) m3 ([Da.int a1z n2]++[Da.int a1z (a0z .i64 (k+1))]++[Da.sl xs1]))[m5]?)=some (r3 n6 n7 xs3)/\Do (∀(y:List Da),y∈xs3->y.length=Prod.fst ((3:Nat),(40:Nat),[At.d (Da.int a1z 0),At.d (Da.int a1z 0),At.e0]))/\∃ys1 n8,XC pg 157 [.one (.ol 2000),Z (a0z .i64 (a0z .i64 (k+1)+1))] [(2000,.mt 52 3 xs3)] (Z n8) [(2000,.mt 52 3 ys1)]/\t5q r O n8 (a0z .i64 (i+1)) (a3z (a3z (a3z a m1 ([]++[Da.int a1z k]++[Da.int a1z n1,Da.sl xs])) m3 ([Da.int a1z n2]++[Da.int a1z (a0z .i64 (k+1))]++[Da.sl xs1])) m5 ([Da.int a1z n6,Da.int a1z n7]++[Da.sl ys1]++[])))
 (Z k=r/\[(2000,.mt 52 3 a)]=O)):t5q r O k i a:=by
 unfold t5q CLk
 refine c6q (E:=env) (hs:=I0q) envOk a5q ?_
 exact a4q (by kernel_rfl) h
theorem a3mq {k:Int} {o2000:LL} {r:AV} {O:List (Nat×Ob)} (h:t5q r O k (0:Int) o2000):XC pg 157 [(.one (.ol 2000)),(Z k)] [(2000,(.mt 52 3 o2000))] r O :=
 c1q (E:=env) (hs:=I0q) (c:=(a2q Tryz.f157)) (n:=34) (res:=[.tmp 4]) (rs:=.c (.i .i64)) (ks:=[(2000,(false))]) (dir:=[2000]) envOk a5q rfl Tryz.func157 (by kernel_rfl) (by kernel_rfl) (by kernel_rfl) (by kernel_rfl) (a4q (by kernel_rfl) h)
def I5q:b4q:=⟨[(2,⟨[0,1,5],[],[],[],[],[],[]⟩)],[]⟩
def t9q (r:AV) (O:List (Nat×Ob)) (a:LL) (k i:Int):Prop:=CLk 40 env I5q (a2q Tryz.f158) [1,0,1,0,0] (e0q env [.tmp 4] (.c (.i .i64)) [] [] r O) ⟨[(0,(L a)),(1,(Z k)),(5,(Z i))],[]⟩
theorem L3q {r:AV} {O:List (Nat×Ob)} {a:LL} {k i:Int} (h:ifB (decide (i<(a.length:Int)))
 (∃m:Nat,i=m/\∃n n1 xs,(a[m]?)=some (r3 n n1 xs)/\ifB (decide (n≠k))
 ((Z (-1:Int))=r/\[]=O)
 (∃m1:Nat,i=m1/\∃n2 n3 xs1,(a[m1]?)=some (r3 n2 n3 xs1)/\ifB (decide (n3≠a0z .i64 (k+1)))
 ((Z (-1:Int))=r/\[]=O)
 (∃m2:Nat,i=m2/\∃n4 n5 xs2,(a[m2]?)=some (r3 n4 n5 xs2)/\∃n6,XC pg 158 [L xs2,Z (a0z .i64 (a0z .i64 (k+1)+1))] [] (Z n6) []/\ifB (decide (n6<0))
 ((Z (-1:Int))=r/\[]=O)
 (t9q r O a n6 (a0z .i64 (i+1))))))
 (Z k=r/\[]=O)):t9q r O a k i:=by
 unfold t9q CLk
 refine c6q (E:=env) (hs:=I5q) envOk a5q ?_
 exact a4q (by kernel_rfl) h
theorem a3qq {a:LL} {k:Int} {r:AV} {O:List (Nat×Ob)} (h:t9q r O a k (0:Int)):XC pg 158 [(L a),(Z k)] [] r O :=
 c1q (E:=env) (hs:=I5q) (c:=(a2q Tryz.f158)) (n:=40) (res:=[.tmp 4]) (rs:=.c (.i .i64)) (ks:=[]) (dir:=[]) envOk a5q rfl Tryz.func158 (by kernel_rfl) (by kernel_rfl) (by kernel_rfl) (by kernel_rfl) (a4q (by kernel_rfl) h)
def a7Iq:b4q:=⟨[],[]⟩
theorem a5Eq {o2000:LL} {o20001:Int} {o20002:Bool} {o20003 o20004:LL} {r:AV} {O:List (Nat×Ob)} (h:ifB (!o20002)
 ((T ⟨#[]⟩)=r/\(o1_ o2000 o20001 o20002 o20003 o20004)=O)
 (ifB (decide ((o2000.length:Int)<=o20001))
 ((T ⟨#[]⟩)=r/\(o1_ o2000 o20001 o20002 o20003 o20004)=O)
 (∃m:Nat,o20001=m/\∃q,(o2000[m]?)=some [.str q]/\T q=r/\(o1_ o2000 o20001 o20002 o20003 o20004)=O))):XC pg 189 [(.one (.op 2000 0))] (o5_ o2000 o20001 o20002 o20003 o20004) r O :=
 w9q (E:=env) (hs:=a7Iq) (c:=(a2q Tryz.f189)) (n:=30) (res:=[.tmp 2]) (rs:=.c .s) (ks:=[(2000,(true)),(2001,(false)),(2002,(false))]) (dir:=[2000]) envOk a5q [(2000,2000),(2001,1001),(2002,1002)] [] (by kernel_rfl) rfl Tryz.func189 (by kernel_rfl) (by kernel_rfl) (by kernel_rfl) (by kernel_rfl) (a4q (by kernel_rfl) h)
def a6rq:b4q:=⟨[],[]⟩
theorem a5fq {o2000:LL} {o20001:Int} {o20002:Bool} {o20003 o20004:LL} {r:AV} {O:List (Nat×Ob)} (h:∃q xs m b xs1 xs2,XC pg 189 [.one (.op 2000 0)] (o0_ o2000 o20001 o20002 o20003 o20004) (T q) (o1_ xs m b xs1 xs2)/\ifB (decide (q={ data := #[] }))
 ((.dat (r3 (0:Int) (0:Int) []))=r/\(o1_ xs m false xs1 xs2)=O)
 (∃n:Nat,∃b1:UInt8,(0:Int)=(n:Int)/\(q[n]?)=some b1/\ifB (decide ((↑(a9z b1):Int)=88))
 (∃n1:Nat,(1:Int)=(n1:Int)/\Do (n1<=a4z q/\a4z q<=a4z q)/\∃n2 b2,XC pg 202 [T (a5z q n1 (a4z q))] [] (.tup [Z n2,B b2]) []/\ifB b
 (ifB b2
 (∃n3 n4 xs3,XC pg 166 [Z n2] [] (.dat (r3 n3 n4 xs3)) []/\.dat (r3 n3 n4 xs3)=r/\(o1_ xs (a0z .i64 (m+1)) (decide (n2<20)) xs1 xs2)=O)
 (∃n5 n6 xs4,XC pg 166 [Z n2] [] (.dat (r3 n5 n6 xs4)) []/\.dat (r3 n5 n6 xs4)=r/\(o1_ xs (a0z .i64 (m+1)) false xs1 xs2)=O))
 (∃n7 n8 xs5,XC pg 166 [Z n2] [] (.dat (r3 n7 n8 xs5)) []/\.dat (r3 n7 n8 xs5)=r/\(o1_ xs (a0z .i64 (m+1)) false xs1 xs2)=O))
 (∃q1 xs6 m1 b3 xs7 xs8,XC pg 189 [.one (.op 2000 0)] (o0_ xs (a0z .i64 (m+1)) b xs1 xs2) (T q1) (o1_ xs6 m1 b3 xs7 xs8)/\ifB (decide (q1=⟨#[40]⟩))
 (∃n9 xs9 m2 b4 xs10 xs11,XC pg 203 [.one (.op 2000 0)] (o0_ xs6 m1 b3 xs7 xs8) (Z n9) (o1_ xs9 m2 b4 xs10 xs11)/\∃n10 xs12 m3 b5 xs13 xs14,XC pg 204 [.one (.op 2000 0),T q,Z n9] (o0_ xs9 m2 b4 xs10 xs11) (Z n10) (o1_ xs12 m3 b5 xs13 xs14)/\∃b6 xs15 m4 b7 xs16 xs17,XC pg 146 [.one (.op 2000 0),T ⟨#[40]⟩] (o0_ xs12 m3 b5 xs13 xs14) (B b6) (o1_ xs15 m4 b7 xs16 xs17)/\ifB (!b6)
 (∃n11 n12 xs18,XC pg 165 [Z n10,L []] [] (.dat (r3 n11 n12 xs18)) []/\.dat (r3 n11 n12 xs18)=r/\(o1_ xs15 m4 b7 xs16 xs17)=O)
 (∃xs19 xs20 m5 b8 xs21 xs22,XC pg 205 [.one (.op 2000 0)] (o0_ xs15 m4 b7 xs16 xs17) (L xs19) (o1_ xs20 m5 b8 xs21 xs22)/\∃n13 n14 xs23,XC pg 165 [Z n10,L xs19] [] (.dat (r3 n13 n14 xs23)) []/\.dat (r3 n13 n14 xs23)=r/\(o1_ xs20 m5 b8 xs21 xs22)=O))
 (∃n15 xs24 m6 b9 xs25 xs26,XC pg 204 [.one (.op 2000 0),T q,Z 0] (o0_ xs6 m1 b3 xs7 xs8) (Z n15) (o1_ xs24 m6 b9 xs25 xs26)/\∃b10 xs27 m7 b11 xs28 xs29,XC pg 146 [.one (.op 2000 0),T ⟨#[40]⟩] (o0_ xs24 m6 b9 xs25 xs26) (B b10) (o1_ xs27 m7 b11 xs28 xs29)/\ifB (!b10)
 (∃n16 n17 xs30,XC pg 165 [Z n15,L []] [] (.dat (r3 n16 n17 xs30)) []/\.dat (r3 n16 n17 xs30)=r/\(o1_ xs27 m7 b11 xs28 xs29)=O)
 (∃xs31 xs32 m8 b12 xs33 xs34,XC pg 205 [.one (.op 2000 0)] (o0_ xs27 m7 b11 xs28 xs29) (L xs31) (o1_ xs32 m8 b12 xs33 xs34)/\∃n18 n19 xs35,XC pg 165 [Z n15,L xs31] [] (.dat (r3 n18 n19 xs35)) []/\.dat (r3 n18 n19 xs35)=r/\(o1_ xs32 m8 b12 xs33 xs34)=O))))):XC pg 190 [(.one (.op 2000 0))] (o5_ o2000 o20001 o20002 o20003 o20004) r O :=
 w9q (E:=env) (hs:=a6rq) (c:=(a2q Tryz.f190)) (n:=68) (res:=[.cell 2 52]) (rs:=.d [(.i .i64),(.i .i64),.l]) (ks:=[(2000,(true)),(2001,(false)),(2002,(false))]) (dir:=[2000]) envOk a5q [(2000,2000),(2001,1001),(2002,1002)] [] (by kernel_rfl) rfl Tryz.func190 (by kernel_rfl) (by kernel_rfl) (by kernel_rfl) (by kernel_rfl) (a4q (by kernel_rfl) h)
def G7q:b4q:=⟨[(3,⟨[0,3,4,5,6],[],[],[(5,(2,(52,3)))],[],[5],[]⟩),(7,⟨[0,3,4,5,6,7,8],[],[],[(5,(2,(52,3)))],[],[5],[]⟩)],[]⟩
def s4q (r:AV) (O:List (Nat×Ob)) (s0:LL) (s6 s3 s31:Int) (s32:LL) (s4 s41:Int) (s5 s51:Int) (s52:LL):Prop:=CLk 68 env G7q (a2q Tryz.f117) [1,1,0,1,0,0] (e0q env [.cell 4 52] (.d [(.i .i64),(.i .i64),.l]) [] [] r O) ⟨[(0,(L s0)),(3,(.one (.op 1900 0))),(4,(.one (.op 1901 0))),(5,(.one (.op 1902 0))),(6,(Z s6))],[(1900,(.var [(.d (.int .i64 s3)),(.d (.int .i64 s31)),(.d (.sl s32))])),(1901,(.var [(.d (.int .i64 s4)),(.d (.int .i64 s41)),.e0])),(1902,(.var [(.d (.int .i64 s5)),(.d (.int .i64 s51)),(.ol 1903)])),(1903,(.lst 52 3 s52))]⟩
def D8q (r:AV) (O:List (Nat×Ob)) (s0:LL) (s6 s8:Int) (s3 s31:Int) (s32:LL) (s4 s41:Int) (s5 s51:Int) (s7 s71:Int) (s72 s52:LL):Prop:=CLk 68 env G7q (a2q Tryz.f117) [1,1,0,1,0,0,1,0,0,1,0,1,1,1,1,1,0,0] (e0q env [.cell 4 52] (.d [(.i .i64),(.i .i64),.l]) [] [] r O) ⟨[(0,(L s0)),(3,(.one (.op 1900 0))),(4,(.one (.op 1901 0))),(5,(.one (.op 1902 0))),(6,(Z s6)),(7,(.one (.op 1903 0))),(8,(Z s8))],[(1900,(.var [(.d (.int .i64 s3)),(.d (.int .i64 s31)),(.d (.sl s32))])),(1901,(.var [(.d (.int .i64 s4)),(.d (.int .i64 s41)),.e0])),(1902,(.var [(.d (.int .i64 s5)),(.d (.int .i64 s51)),(.ol 1904)])),(1903,(.var [(.d (.int .i64 s7)),(.d (.int .i64 s71)),(.d (.sl s72))])),(1904,(.lst 52 3 s52))]⟩
theorem a01q {r:AV} {O:List (Nat×Ob)} {s0:LL} {s6 s3 s31:Int} {s32:LL} {s4 s41 s5 s51:Int} {s52:LL} (h:ifB (decide (s6<(s32.length:Int)))
 (∃m:Nat,s6=m/\∃n n1 xs,(s32[m]?)=some (r3 n n1 xs)/\∃n2 n3 xs1,XC pg 117 [L s0,.dat (r3 n n1 xs)] [] (.dat (r3 n2 n3 xs1)) []/\∃b,XC pg 167 [L s0,Z s3] [] (B b) []/\ifB (!b)
 (Do ((s52.length+a2z [(r3 n2 n3 xs1)])*40<=140737488355328)/\s4q r O s0 (a0z .i64 (s6+1)) s3 s31 s32 s4 s41 s5 s51 (s52++[(r3 n2 n3 xs1)]))
 (ifB (decide (n2≠s3))
 (∃xs2,XC pg 168 [L s52,.dat (r3 n2 n3 xs1)] [] (.one (.ol 0)) [(0,.lst 52 3 xs2)]/\s4q r O s0 (a0z .i64 (s6+1)) s3 s31 s32 s4 s41 s5 s51 xs2)
 (D8q r O s0 s6 (0:Int) s3 s31 s32 s4 s41 s5 s51 n2 n3 xs1 s52)))
 ((.dat (r3 s5 s51 s52))=r/\[]=O)):s4q r O s0 s6 s3 s31 s32 s4 s41 s5 s51 s52:=by
 unfold s4q CLk
 refine c6q (E:=env) (hs:=G7q) envOk a5q ?_
 exact a4q (by kernel_rfl) h
theorem a0mq {r:AV} {O:List (Nat×Ob)} {s0:LL} {s6 s8 s3 s31:Int} {s32:LL} {s4 s41 s5 s51 s7 s71:Int} {s72 s52:LL} (h:ifB (decide (s8<(s72.length:Int)))
 (∃m:Nat,s8=m/\∃n n1 xs,(s72[m]?)=some (r3 n n1 xs)/\∃xs1,XC pg 168 [L s52,.dat (r3 n n1 xs)] [] (.one (.ol 0)) [(0,.lst 52 3 xs1)]/\D8q r O s0 s6 (a0z .i64 (s8+1)) s3 s31 s32 s4 s41 s5 s51 s7 s71 s72 xs1)
 (s4q r O s0 (a0z .i64 (s6+1)) s3 s31 s32 s4 s41 s5 s51 s52)):D8q r O s0 s6 s8 s3 s31 s32 s4 s41 s5 s51 s7 s71 s72 s52:=by
 unfold D8q CLk
 refine c6q (E:=env) (hs:=G7q) envOk a5q ?_
 exact a4q (by kernel_rfl) h
theorem a8Xq {p:LL} {p1 p2:Int} {p3:LL} {r:AV} {O:List (Nat×Ob)} (h:s4q r O p (0:Int) p1 p2 p3 (0:Int) (0:Int) p1 p2 []):XC pg 117 [(L p),(.dat [(.int .i64 p1),(.int .i64 p2),(.sl p3)])] [] r O :=
 c1q (E:=env) (hs:=G7q) (c:=(a2q Tryz.f117)) (n:=68) (res:=[.cell 4 52]) (rs:=.d [(.i .i64),(.i .i64),.l]) (ks:=[]) (dir:=[]) envOk a5q rfl Tryz.func117 (by kernel_rfl) (by kernel_rfl) (by kernel_rfl) (by kernel_rfl) (a4q (by kernel_rfl) h)
def S6q:b4q:=⟨[(8,⟨[2,3,5],[],[],[],[],[],[]⟩)],[]⟩
def z2q (r:AV) (O:List (Nat×Ob)) (s5 s2 s21:Int) (s22:LL) (s3 s31:Int) (s32:LL):Prop:=CLk 70 env S6q (a2q Tryz.f118) [1,1,1,1,0,1,0,0] (e0q env [.tmp 4] (.c .b) [] [] r O) ⟨[(2,(.one (.op 1900 0))),(3,(.one (.op 1901 0))),(5,(Z s5))],[(1900,(.var [(.d (.int .i64 s2)),(.d (.int .i64 s21)),(.d (.sl s22))])),(1901,(.var [(.d (.int .i64 s3)),(.d (.int .i64 s31)),(.d (.sl s32))]))]⟩
theorem U4q {r:AV} {O:List (Nat×Ob)} {s5 s2 s21:Int} {s22:LL} {s3 s31:Int} {s32:LL} (h:ifB (decide (s5<(s22.length:Int)))
 (∃m:Nat,s5=m/\∃n n1 xs,(s22[m]?)=some (r3 n n1 xs)/\∃m1:Nat,s5=m1/\∃n2 n3 xs1,(s32[m1]?)=some (r3 n2 n3 xs1)/\∃b,XC pg 119 [.dat (r3 n n1 xs),.dat (r3 n2 n3 xs1)] [] (B b) []/\ifB (!b)
 (∃m2:Nat,s5=m2/\∃n4 n5 xs2,(s22[m2]?)=some (r3 n4 n5 xs2)/\∃m3:Nat,s5=m3/\∃n6 n7 xs3,(s32[m3]?)=some (r3 n6 n7 xs3)/\∃b1,XC pg 118 [.dat (r3 n4 n5 xs2),.dat (r3 n6 n7 xs3)] [] (B b1) []/\B b1=r/\[]=O)
 (z2q r O (a0z .i64 (s5+1)) s2 s21 s22 s3 s31 s32))
 (B false=r/\[]=O)):z2q r O s5 s2 s21 s22 s3 s31 s32:=by
 unfold z2q CLk
 refine c6q (E:=env) (hs:=S6q) envOk a5q ?_
 exact a4q (by kernel_rfl) h
theorem a67q {p p1:Int} {p2:LL} {p3 p4:Int} {p5:LL} {r:AV} {O:List (Nat×Ob)} (h:ifB (decide (p≠p3))
 ((B (decide (p<p3)))=r/\[]=O)
 (ifB (decide (p1≠p4))
 ((B (decide (p1<p4)))=r/\[]=O)
 (ifB (decide ((p2.length:Int)≠(p5.length:Int)))
 ((B (decide ((p2.length:Int)<(p5.length:Int))))=r/\[]=O)
 (z2q r O (0:Int) p p1 p2 p3 p4 p5)))):XC pg 118 [(.dat [(.int .i64 p),(.int .i64 p1),(.sl p2)]),(.dat [(.int .i64 p3),(.int .i64 p4),(.sl p5)])] [] r O :=
 c1q (E:=env) (hs:=S6q) (c:=(a2q Tryz.f118)) (n:=70) (res:=[.tmp 4]) (rs:=.c .b) (ks:=[]) (dir:=[]) envOk a5q rfl Tryz.func118 (by kernel_rfl) (by kernel_rfl) (by kernel_rfl) (by kernel_rfl) (a4q (by kernel_rfl) h)
def M2q:b4q:=⟨[(4,⟨[2,3,5],[],[],[],[],[],[]⟩)],[]⟩
def v6q (r:AV) (O:List (Nat×Ob)) (i a a1:Int) (a2:LL) (b b1:Int) (b2:LL):Prop:=CLk 46 env M2q (a2q Tryz.f119) [1,1,0,1,0,0] (e0q env [.tmp 4] (.c .b) [] [] r O) ⟨[(2,(.one (.op 1900 0))),(3,(.one (.op 1901 0))),(5,(Z i))],[(1900,(.var [(.d (.int .i64 a)),(.d (.int .i64 a1)),(.d (.sl a2))])),(1901,(.var [(.d (.int .i64 b)),(.d (.int .i64 b1)),(.d (.sl b2))]))]⟩
theorem N0q {r:AV} {O:List (Nat×Ob)} {i a a1:Int} {a2:LL} {b b1:Int} {b2:LL} (h:ifB (decide (i<(a2.length:Int)))
 (∃m:Nat,i=m/\∃n n1 xs,(a2[m]?)=some (r3 n n1 xs)/\∃m1:Nat,i=m1/\∃n2 n3 xs1,(b2[m1]?)=some (r3 n2 n3 xs1)/\∃b4,XC pg 119 [.dat (r3 n n1 xs),.dat (r3 n2 n3 xs1)] [] (B b4) []/\ifB (!b4)
 (B false=r/\[]=O)
 (v6q r O (a0z .i64 (i+1)) a a1 a2 b b1 b2))
 (B true=r/\[]=O)):v6q r O i a a1 a2 b b1 b2:=by
 unfold v6q CLk
 refine c6q (E:=env) (hs:=M2q) envOk a5q ?_
 exact a4q (by kernel_rfl) h
theorem a3Lq {a a1:Int} {a2:LL} {b b1:Int} {b2:LL} {r:AV} {O:List (Nat×Ob)} (h:ifB (decide (a≠b))
 (B false=r/\[]=O)
 (ifB (decide (a1≠b1))
 (B false=r/\[]=O)
 (ifB (decide ((a2.length:Int)≠(b2.length:Int)))
 (B false=r/\[]=O)
 (v6q r O (0:Int) a a1 a2 b b1 b2)))):XC pg 119 [(.dat [(.int .i64 a),(.int .i64 a1),(.sl a2)]),(.dat [(.int .i64 b),(.int .i64 b1),(.sl b2)])] [] r O :=
 c1q (E:=env) (hs:=M2q) (c:=(a2q Tryz.f119)) (n:=46) (res:=[.tmp 4]) (rs:=.c .b) (ks:=[]) (dir:=[]) envOk a5q rfl Tryz.func119 (by kernel_rfl) (by kernel_rfl) (by kernel_rfl) (by kernel_rfl) (a4q (by kernel_rfl) h)
def a7Oq:b4q:=⟨[],[]⟩
theorem a5Dq {s:LL} {t t1:Int} {t2:LL} {r:AV} {O:List (Nat×Ob)} (h:∃b,XC pg 94 [L s] [] (B b) []/\ifB b
 (∃n,XC pg 177 [.dat (r3 t t1 t2)] [] (Z n) []/\ifB (decide (n<=60))
 (∃b1,XC pg 178 [L s,.dat (r3 t t1 t2)] [] (B b1) []/\B b1=r/\[]=O)
 (B false=r/\[]=O))
 (B false=r/\[]=O)):XC pg 128 [(L s),(.dat [(.int .i64 t),(.int .i64 t1),(.sl t2)])] [] r O :=
 c1q (E:=env) (hs:=a7Oq) (c:=(a2q Tryz.f128)) (n:=17) (res:=[.tmp 4]) (rs:=.c .b) (ks:=[]) (dir:=[]) envOk a5q rfl Tryz.func128 (by kernel_rfl) (by kernel_rfl) (by kernel_rfl) (by kernel_rfl) (a4q (by kernel_rfl) h)
def Z8q:b4q:=⟨[],[]⟩
theorem E0q {s prefix_:ByteArray} {r:AV} {O:List (Nat×Ob)} (h:ifB (decide ((prefix_.size:Int)<=(s.size:Int)))
 (∃n:Nat,(prefix_.size:Int)=(n:Int)/\Do ((0:Nat)<=n/\n<=a4z s)/\(B (decide (a5z s (0:Nat) n=prefix_)))=r/\[]=O)
 (B false=r/\[]=O)):XC pg 183 [(T s),(T prefix_)] [] r O :=
 c1q (E:=env) (hs:=Z8q) (c:=(a2q Tryz.f183)) (n:=18) (res:=[.tmp 4]) (rs:=.c .b) (ks:=[]) (dir:=[]) envOk a5q rfl Tryz.func183 (by kernel_rfl) (by kernel_rfl) (by kernel_rfl) (by kernel_rfl) (a4q (by kernel_rfl) h)
def a5Oq:b4q:=⟨[],[]⟩
theorem a06q {c:Int} {r:AV} {O:List (Nat×Ob)} (h:ifB (decide ((97:Int)<=c))
 ((B (decide (c<=122)))=r/\[]=O)
 (B false=r/\[]=O)):XC pg 152 [(I .u8 c)] [] r O :=
 c1q (E:=env) (hs:=a5Oq) (c:=(a2q Tryz.f152)) (n:=9) (res:=[.tmp 2]) (rs:=.c .b) (ks:=[]) (dir:=[]) envOk a5q rfl Tryz.func152 (by kernel_rfl) (by kernel_rfl) (by kernel_rfl) (by kernel_rfl) (a4q (by kernel_rfl) h)
def a6hq:b4q:=⟨[],[]⟩
theorem a08q {c:Int} {r:AV} {O:List (Nat×Ob)} (h:ifB (decide ((48:Int)<=c))
 ((B (decide (c<=57)))=r/\[]=O)
 (B false=r/\[]=O)):XC pg 153 [(I .u8 c)] [] r O :=
 c1q (E:=env) (hs:=a6hq) (c:=(a2q Tryz.f153)) (n:=9) (res:=[.tmp 2]) (rs:=.c .b) (ks:=[]) (dir:=[]) envOk a5q rfl Tryz.func153 (by kernel_rfl) (by kernel_rfl) (by kernel_rfl) (by kernel_rfl) (a4q (by kernel_rfl) h)
def Z6q:b4q:=⟨[],[]⟩
theorem X3q {s:ByteArray} {c:Int} {r:AV} {O:List (Nat×Ob)} (h:(Z (firstIdx s (Nat.toUInt8 (aaz c))))=r/\[]=O):XC pg 184 [(T s),(I .u8 c)] [] r O :=
 c1q (E:=env) (hs:=Z6q) (c:=(a2q Tryz.f184)) (n:=8) (res:=[.tmp 4]) (rs:=.c (.i .i64)) (ks:=[]) (dir:=[]) envOk a5q rfl Tryz.func184 (by kernel_rfl) (by kernel_rfl) (by kernel_rfl) (by kernel_rfl) (a4q (by kernel_rfl) h)
def n7q:b4q:=⟨[(2,⟨[0,1,7,8],[],[],[],[],[],[]⟩)],[]⟩
def i2q (r:AV) (O:List (Nat×Ob)) (s:LL) (s7 s8:Int) (o2000:ByteArray):Prop:=CLk 19 env n7q (a2q Tryz.f154) [1,0,1,0,0] (e0q env [.tmp 4] (.c (.i .i64)) [(2000,(true))] [2000] r O) ⟨[(0,(L s)),(1,(.one (.clo 155 [(2000,0)]))),(7,(Z s7)),(8,(Z s8))],[(2000,(.var [(.d (.str o2000))]))]⟩
theorem q4q {r:AV} {O:List (Nat×Ob)} {s:LL} {s7 s8:Int} {o2000:ByteArray} (h:ifB (decide (s8<s7))
 (∃m:Nat,s8=m/\∃q n b,(s[m]?)=some [.str q,.int .i64 n,.bool b]/\∃b1 q1,XC pg 155 [.dat [.str q,.int .i64 n,.bool b],.one (.op 2000 0)] [(2000,.var [.d (.str o2000)])] (B b1) [(2000,.var [.d (.str q1)])]/\ifB b1
 (Z s8=r/\[(2000,.var [.d (.str q1)])]=O)
 (i2q r O s s7 (a0z .i64 (s8+1)) q1))
 ((Z (-1:Int))=r/\[(2000,.var [.d (.str o2000)])]=O)):i2q r O s s7 s8 o2000:=by
 unfold i2q CLk
 refine c6q (E:=env) (hs:=n7q) envOk a5q ?_
 exact a4q (by kernel_rfl) h
theorem E7q {s:LL} {o2000:ByteArray} {r:AV} {O:List (Nat×Ob)} (h:i2q r O s (s.length:Int) (0:Int) o2000):XC pg 154 [(L s),(.one (.clo 155 [(2000,0)]))] [(2000,(.var [(.d (.str o2000))]))] r O :=
 c1q (E:=env) (hs:=n7q) (c:=(a2q Tryz.f154)) (n:=19) (res:=[.tmp 4]) (rs:=.c (.i .i64)) (ks:=[(2000,(true))]) (dir:=[2000]) envOk a5q rfl Tryz.func154 (by kernel_rfl) (by kernel_rfl) (by kernel_rfl) (by kernel_rfl) (a4q (by kernel_rfl) h)
def a27q:b4q:=⟨[],[]⟩
theorem M6q {s prefix_:ByteArray} {r:AV} {O:List (Nat×Ob)} (h:∃q b,XC pg 201 [T s,T prefix_] [] (.tup [T q,B b]) []/\.tup [T q,B b]=r/\[]=O):XC pg 185 [(T s),(T prefix_)] [] r O :=
 c1q (E:=env) (hs:=a27q) (c:=(a2q Tryz.f185)) (n:=11) (res:=[.tmp 4,.tmp 5]) (rs:=.t [.c .s,.c .b]) (ks:=[]) (dir:=[]) envOk a5q rfl Tryz.func185 (by kernel_rfl) (by kernel_rfl) (by kernel_rfl) (by kernel_rfl) (a4q (by kernel_rfl) h)
def S9q:b4q:=⟨[(5,⟨[0,4,14,15],[],[],[],[],[],[]⟩)],[]⟩
def A0q (r:AV) (O:List (Nat×Ob)) (s:ByteArray) (n s14 s15:Int):Prop:=CLk 42 env S9q (a2q Tryz.f186) [1,1,1,0,1,0,0] (e0q env [.tmp 2,.tmp 3] (.t [.c (.i .i64),.c .b]) [] [] r O) ⟨[(0,(T s)),(4,(Z n)),(14,(Z s14)),(15,(Z s15))],[]⟩
theorem T8q {r:AV} {O:List (Nat×Ob)} {s:ByteArray} {n s14 s15:Int} (h:ifB (decide (s15<s14))
 (∃n1:Nat,∃b:UInt8,s15=n1/\(s[n1]?)=some b/\ifB (decide ((↑(a9z b):Int)<48))
 ((.tup [Z 0,B false])=r/\[]=O)
 (∃n2:Nat,∃b1:UInt8,s15=n2/\(s[n2]?)=some b1/\ifB (decide ((57:Int)<(↑(a9z b1):Int)))
 ((.tup [Z 0,B false])=r/\[]=O)
 (∃n3:Nat,∃b2:UInt8,s15=n3/\(s[n3]?)=some b2/\A0q r O s (a0z .i64 (a0z .i64 ((10:Int)*n)+a0z .i64 (a0z aiz ((↑(a9z b2):Int)-48)))) s14 (a0z .i64 (s15+1)))))
 (∃q,XC pg 97 [Z n] [] (T q) []/\ifB (decide (q≠s))
 ((.tup [Z 0,B false])=r/\[]=O)
 ((.tup [Z n,B true])=r/\[]=O))):A0q r O s n s14 s15:=by
 unfold A0q CLk
 refine c6q (E:=env) (hs:=S9q) envOk a5q ?_
 exact a4q (by kernel_rfl) h
theorem a5Gq {s:ByteArray} {r:AV} {O:List (Nat×Ob)} (h:ifB (decide (s={ data := #[] }))
 ((.tup [Z 0,B false])=r/\[]=O)
 (ifB (decide ((6:Int)<(s.size:Int)))
 ((.tup [Z 0,B false])=r/\[]=O)
 (A0q r O s (0:Int) (s.size:Int) (0:Int)))):XC pg 186 [(T s)] [] r O :=
 c1q (E:=env) (hs:=S9q) (c:=(a2q Tryz.f186)) (n:=42) (res:=[.tmp 2,.tmp 3]) (rs:=.t [.c (.i .i64),.c .b]) (ks:=[]) (dir:=[]) envOk a5q rfl Tryz.func186 (by kernel_rfl) (by kernel_rfl) (by kernel_rfl) (by kernel_rfl) (a4q (by kernel_rfl) h)
def a4vq:b4q:=⟨[],[]⟩
theorem a4kq {v:Int} {r:AV} {O:List (Nat×Ob)} (h:(.agg [.d (.int .i64 (-1:Int)),.d (.int .i64 v),.e0])=r/\[]=O):XC pg 187 [(Z v)] [] r O :=
 c1q (E:=env) (hs:=a4vq) (c:=(a2q Tryz.f187)) (n:=5) (res:=[.cell 2 52]) (rs:=.s [.k (.i .i64),.k (.i .i64),.e]) (ks:=[]) (dir:=[]) envOk a5q rfl Tryz.func187 (by kernel_rfl) (by kernel_rfl) (by kernel_rfl) (by kernel_rfl) (a4q (by kernel_rfl) h)
def a0wq:b4q:=⟨[],[]⟩
theorem Z9q {p:ByteArray} {p1:Int} {o2000:LL} {o20001:Int} {o20002:Bool} {o20003:LL} {r:AV} {O:List (Nat×Ob)} (h:∃n,XC pg 99 [L o20003,T p] [] (Z n) []/\∃b,XC pg 98 [T p] [] (B b) []/\ifB (!b)
 (Z n=r/\(o3_ o2000 o20001 true o20003)=O)
 (ifB (decide (p=⟨#[97,99]⟩))
 (Z n=r/\(o3_ o2000 o20001 true o20003)=O)
 (ifB (decide (n<0))
 (Do ((o20003.length+a2z [[Da.str p,Da.int a1z p1,Da.bool false]])*32<=140737488355328)/\(Z (a0z .i64 (((o20003++[[Da.str p,Da.int a1z p1,Da.bool false]]).length:Int)-1)))=r/\(o3_ o2000 o20001 o20002 (o20003++[[Da.str p,Da.int a1z p1,Da.bool false]]))=O)
 (∃m:Nat,n=m/\Do (m<o20003.length)/\∃n1:Nat,(m*3+1)=(n1*3+1)/\∃q n2 b1,(o20003[n1]?)=some [.str q,.int .i64 n2,.bool b1]/\ifB (decide (n2=(-1:Int)))
 (∃m1:Nat,n=m1/\Do (m1<o20003.length)/\∃m2:Nat,(m1*3+1)=(m2*3+1)/\∃q1 n3 b2,(o20003[m2]?)=some [.str q1,.int .i64 n3,.bool b2]/\Z n=r/\(o3_ o2000 o20001 o20002 (a3z o20003 m2 ([Da.str q1]++[Da.int a1z p1]++[Da.bool b2])))=O)
 (∃m3:Nat,n=m3/\Do (m3<o20003.length)/\∃n4:Nat,(m3*3+2)=(n4*3+2)/\∃q2 n5 b3,(o20003[n4]?)=some [.str q2,.int .i64 n5,.bool b3]/\ifB b3
 (ifB (decide (p1<2))
 (Z n=r/\(o3_ o2000 o20001 true o20003)=O)
 (∃m4:Nat,n=m4/\Do (m4<o20003.length)/\∃n6:Nat,(m4*3+2)=(n6*3+2)/\∃q3 n7 b4,(o20003[n6]?)=some [.str q3,.int .i64 n7,.bool b4]/\ifB (!b4)
 (∃m5:Nat,n=m5/\Do (m5<o20003.length)/\∃n8:Nat,(m5*3+1)=(n8*3+1)/\∃q4 n9 b5,(o20003[n8]?)=some [.str q4,.int .i64 n9,.bool b5]/\ifB (decide (p1≠n9))
 (Z n=r/\(o3_ o2000 o20001 true o20003)=O)
 (Z n=r/\(o3_ o2000 o20001 o20002 o20003)=O))
 (Z n=r/\(o3_ o2000 o20001 o20002 o20003)=O)))
 (∃m6:Nat,n=m6/\Do (m6<o20003.length)/\∃n10:Nat,(m6*3+2)=(n10*3+2)/\∃q5 n11 b6,(o20003[n10]?)=some [.str q5,.int .i64 n11,.bool b6]/\ifB (!b6)
 (∃m7:Nat,n=m7/\Do (m7<o20003.length)/\∃n12:Nat,(m7*3+1)=(n12*3+1)/\∃q6 n13 b7,(o20003[n12]?)=some [.str q6,.int .i64 n13,.bool b7]/\ifB (decide (p1≠n13))
 (Z n=r/\(o3_ o2000 o20001 true o20003)=O)
 (Z n=r/\(o3_ o2000 o20001 o20002 o20003)=O))
 (Z n=r/\(o3_ o2000 o20001 o20002 o20003)=O))))))):XC pg 188 [(.one (.op 2000 0)),(T p),(Z p1)] (o6_ o2000 o20001 o20002 o20003) r O :=
 w9q (E:=env) (hs:=a0wq) (c:=(a2q Tryz.f188)) (n:=104) (res:=[.tmp 6]) (rs:=.c (.i .i64)) (ks:=[(2000,(true)),(2001,(false))]) (dir:=[2000]) envOk a5q [(2000,2000),(2001,1001)] [] (by kernel_rfl) rfl Tryz.func188 (by kernel_rfl) (by kernel_rfl) (by kernel_rfl) (by kernel_rfl) (a4q (by kernel_rfl) h)
def a0Eq:b4q:=⟨[(3,⟨[0,3,4,5,10,11,12],[],[],[],[],[],[]⟩)],[]⟩
def v1q (r:AV) (O:List (Nat×Ob)) (s s10:LL) (s11 s12:Int) (t t1:Int) (t2:LL) (s4 s41:Int) (kids:LL):Prop:=CLk 48 env a0Eq (a2q Tryz.f109) [1,1,0,1,0,0] (e0q env [.cell 4 52] (.s [.k (.i .i64),.k (.i .i64),.o 52 3]) [] [] r O) ⟨[(0,(L s)),(3,(.one (.op 1900 0))),(4,(.one (.op 1901 0))),(5,(.one (.ol 1902))),(10,(L s10)),(11,(Z s11)),(12,(Z s12))],[(1900,(.var [(.d (.int .i64 t)),(.d (.int .i64 t1)),(.d (.sl t2))])),(1901,(.var [(.d (.int .i64 s4)),(.d (.int .i64 s41)),.e0])),(1902,(.tr 52 3 kids))]⟩
theorem a09q {r:AV} {O:List (Nat×Ob)} {s s10:LL} {s11 s12 t t1:Int} {t2:LL} {s4 s41:Int} {kids:LL} (h:ifB (decide (s12<s11))
 (∃m:Nat,s12=m/\∃n n1 xs,(s10[m]?)=some (r3 n n1 xs)/\∃n2 n3 xs1,XC pg 109 [L s,.dat (r3 n n1 xs)] [] (g3 n2 n3 0) [(0,.tr 52 3 xs1)]/\∃b,XC pg 161 [L s,Z t] [] (B b) []/\ifB b
 (ifB (decide (n2=t))
 (Do ((kids.length+xs1.length)*40<=140737488355328)/\v1q r O s s10 s11 (a0z .i64 (s12+1)) t t1 t2 s4 s41 (kids++xs1))
 (Do ((kids.length+a2z [(r3 n2 n3 xs1)])*40<=140737488355328)/\v1q r O s s10 s11 (a0z .i64 (s12+1)) t t1 t2 s4 s41 (kids++[(r3 n2 n3 xs1)])))
 (Do ((kids.length+a2z [(r3 n2 n3 xs1)])*40<=140737488355328)/\v1q r O s s10 s11 (a0z .i64 (s12+1)) t t1 t2 s4 s41 (kids++[(r3 n2 n3 xs1)])))
 (∃b1,XC pg 161 [L s,Z t] [] (B b1) []/\ifB b1
 (∃xs2,XC pg 162 [.one (.ol 2000),.one (.d (.fn 112))] [(2000,.tr 52 3 kids)] (.tup []) [(2000,.tr 52 3 xs2)]/\(g3 t t1 0)=r/\[(0,.tr 52 3 xs2)]=O)
 ((g3 t t1 0)=r/\[(0,.tr 52 3 kids)]=O))):v1q r O s s10 s11 s12 t t1 t2 s4 s41 kids:=by
 unfold v1q CLk
 refine c6q (E:=env) (hs:=a0Eq) envOk a5q ?_
 exact a4q (by kernel_rfl) h
theorem a8Uq {s:LL} {t t1:Int} {t2:LL} {r:AV} {O:List (Nat×Ob)} (h:v1q r O s t2 (t2.length:Int) (0:Int) t t1 t2 (0:Int) (0:Int) []):XC pg 109 [(L s),(.dat [(.int .i64 t),(.int .i64 t1),(.sl t2)])] [] r O :=
 c1q (E:=env) (hs:=a0Eq) (c:=(a2q Tryz.f109)) (n:=48) (res:=[.cell 4 52]) (rs:=.s [.k (.i .i64),.k (.i .i64),.o 52 3]) (ks:=[]) (dir:=[]) envOk a5q rfl Tryz.func109 (by kernel_rfl) (by kernel_rfl) (by kernel_rfl) (by kernel_rfl) (a4q (by kernel_rfl) h)
def a7Cq:b4q:=⟨[],[]⟩
theorem a68q {a a1:Int} {a2:LL} {b b1:Int} {b2:LL} {r:AV} {O:List (Nat×Ob)} (h:∃n,XC pg 112 [.dat (r3 a a1 a2),.dat (r3 b b1 b2)] [] (Z n) []/\(B (decide (n<0)))=r/\[]=O):XC pg 110 [(.dat [(.int .i64 a),(.int .i64 a1),(.sl a2)]),(.dat [(.int .i64 b),(.int .i64 b1),(.sl b2)])] [] r O :=
 c1q (E:=env) (hs:=a7Cq) (c:=(a2q Tryz.f110)) (n:=9) (res:=[.tmp 4]) (rs:=.c .b) (ks:=[]) (dir:=[]) envOk a5q rfl Tryz.func110 (by kernel_rfl) (by kernel_rfl) (by kernel_rfl) (by kernel_rfl) (a4q (by kernel_rfl) h)
def d5q:b4q:=⟨[(2,⟨[0,1,2,6,7,8],[],[],[],[],[],[]⟩),(7,⟨[0,1,2,6],[],[],[],[],[],[]⟩),(9,⟨[0,1,2,6,7,8],[],[],[],[],[],[]⟩)],[]⟩
def f8q (r:AV) (O:List (Nat×Ob)) (n blockSize:Int) (a b:Int) (data:LL):Prop:=CLk 63 d0q d5q (a2q Tryz.f111) [1,1,0,0,0] (e0q d0q [] (.t []) [(2000,(false))] [2000] r O) ⟨[(0,(.one (.ol 2000))),(1,(Z n)),(2,(.one (.d (.fn 54)))),(6,(Z blockSize)),(7,(Z a)),(8,(Z b))],[(2000,(.lst 54 7 data))]⟩
def c8q (r:AV) (O:List (Nat×Ob)) (n blockSize:Int) (data:LL):Prop:=CLk 63 d0q d5q (a2q Tryz.f111) [1,1,1,1,0,0] (e0q d0q [] (.t []) [(2000,(false))] [2000] r O) ⟨[(0,(.one (.ol 2000))),(1,(Z n)),(2,(.one (.d (.fn 54)))),(6,(Z blockSize))],[(2000,(.lst 54 7 data))]⟩
def g0q (r:AV) (O:List (Nat×Ob)) (n blockSize:Int) (a b:Int) (data:LL):Prop:=CLk 63 d0q d5q (a2q Tryz.f111) [1,1,1,1,0,0,1,0,1,0,0,0] (e0q d0q [] (.t []) [(2000,(false))] [2000] r O) ⟨[(0,(.one (.ol 2000))),(1,(Z n)),(2,(.one (.d (.fn 54)))),(6,(Z blockSize)),(7,(Z a)),(8,(Z b))],[(2000,(.lst 54 7 data))]⟩
theorem j5q {r:AV} {O:List (Nat×Ob)} {n blockSize a b:Int} {data:LL} (h:ifB (decide (b<=n))
 (∃xs,XC pg 163 [.one (.ol 2000),Z a,Z b,.one (.d (.fn 54))] [(2000,.lst 54 7 data)] (.tup []) [(2000,.lst 54 7 xs)]/\f8q r O n blockSize b (a0z .i64 (b+blockSize)) xs)
 (∃xs1,XC pg 163 [.one (.ol 2000),Z a,Z n,.one (.d (.fn 54))] [(2000,.lst 54 7 data)] (.tup []) [(2000,.lst 54 7 xs1)]/\c8q r O n blockSize xs1)):f8q r O n blockSize a b data:=by
 unfold f8q CLk
 refine c6q (E:=d0q) (hs:=d5q) g7q a5q ?_
 exact a4q (by kernel_rfl) h
theorem j6q {r:AV} {O:List (Nat×Ob)} {n blockSize:Int} {data:LL} (h:ifB (decide (blockSize<n))
 (g0q r O n blockSize (0:Int) (a0z .i64 ((2:Int)*blockSize)) data)
 ((.tup [])=r/\[(2000,.lst 54 7 data)]=O)):c8q r O n blockSize data:=by
 unfold c8q CLk
 refine c6q (E:=d0q) (hs:=d5q) g7q a5q ?_
 exact a4q (by kernel_rfl) h
theorem h0q {r:AV} {O:List (Nat×Ob)} {n blockSize a b:Int} {data:LL} (h:ifB (decide (b<=n))
 (∃xs,XC pg 164 [.one (.ol 2000),Z a,Z (a0z .i64 (a+blockSize)),Z b,.one (.d (.fn 54))] [(2000,.lst 54 7 data)] (.tup []) [(2000,.lst 54 7 xs)]/\g0q r O n blockSize b (a0z .i64 (b+a0z .i64 ((2:Int)*blockSize))) xs)
 (ifB (decide (a0z .i64 (a+blockSize)<n))
 (∃xs1,XC pg 164 [.one (.ol 2000),Z a,Z (a0z .i64 (a+blockSize)),Z n,.one (.d (.fn 54))] [(2000,.lst 54 7 data)] (.tup []) [(2000,.lst 54 7 xs1)]/\c8q r O n (a0z .i64 (blockSize*2)) xs1)
 (c8q r O n (a0z .i64 (blockSize*2)) data))):g0q r O n blockSize a b data:=by
 unfold g0q CLk
 refine c6q (E:=d0q) (hs:=d5q) g7q a5q ?_
 exact a4q (by kernel_rfl) h
theorem y0q {n:Int} {o2000:LL} {r:AV} {O:List (Nat×Ob)} (h:f8q r O n (20:Int) (0:Int) (20:Int) o2000):XC pg 111 [(.one (.ol 2000)),(Z n),(.one (.d (.fn 54)))] [(2000,(.lst 54 7 o2000))] r O :=
 c1q (E:=d0q) (hs:=d5q) (c:=(a2q Tryz.f111)) (n:=63) (res:=[]) (rs:=.t []) (ks:=[(2000,(false))]) (dir:=[2000]) g7q a5q rfl Tryz.func111 (by kernel_rfl) (by kernel_rfl) (by kernel_rfl) (by kernel_rfl) (a4q (by kernel_rfl) h)
def a7Bq:b4q:=⟨[],[]⟩
theorem a61q {c o2000:LL} {o20001:Int} {o20002:Bool} {o20003:LL} {r:AV} {O:List (Nat×Ob)} (h:∃b,XC pg 27 [L o20003,.dat [.sl c]] [] (B b) []/\(B (!b))=r/\[(2000,.var [.op 2001 0]),(2001,.var [.d (.sl o2000),.d (.int .i64 o20001),.ol 0,.d (.bool o20002)]),(0,.tr 104 3 o20003)]=O):XC pg 91 [(.dat [(.sl c)]),(.one (.op 2000 0))] [(2000,(.var [(.op 2001 0)])),(2001,(.var [(.d (.sl o2000)),(.d (.int .i64 o20001)),(.ol 2002),(.d (.bool o20002))])),(2002,(.tr 104 3 o20003))] r O :=
 c1q (E:=env) (hs:=a7Bq) (c:=(a2q Tryz.f91)) (n:=11) (res:=[.tmp 3]) (rs:=.c .b) (ks:=[(2000,(true)),(2001,(true)),(2002,(false))]) (dir:=[2000]) envOk a5q rfl Tryz.func91 (by kernel_rfl) (by kernel_rfl) (by kernel_rfl) (by kernel_rfl) (a4q (by kernel_rfl) h)
def a9xq:b4q:=⟨[],[]⟩
theorem a7uq {a:Bool} {a1 a2:Int} {a3:LL} {a4 a5:Int} {a6:LL} {b:Bool} {b1 b2:Int} {b3:LL} {b4 b5:Int} {b6:LL} {r:AV} {O:List (Nat×Ob)} (h:ifB (decide (a≠b))
 (B false=r/\[]=O)
 (∃b7,XC pg 206 [.dat (r3 a1 a2 a3),.dat (r3 b1 b2 b3)] [] (B b7) []/\ifB (!b7)
 (B false=r/\[]=O)
 (∃b8,XC pg 206 [.dat (r3 a4 a5 a6),.dat (r3 b4 b5 b6)] [] (B b8) []/\ifB (!b8)
 (B false=r/\[]=O)
 (B true=r/\[]=O)))):XC pg 191 [(.dat [(.bool a),(.int .i64 a1),(.int .i64 a2),(.sl a3),(.int .i64 a4),(.int .i64 a5),(.sl a6)]),(.dat [(.bool b),(.int .i64 b1),(.int .i64 b2),(.sl b3),(.int .i64 b4),(.int .i64 b5),(.sl b6)])] [] r O :=
 c1q (E:=env) (hs:=a9xq) (c:=(a2q Tryz.f191)) (n:=22) (res:=[.tmp 4]) (rs:=.c .b) (ks:=[]) (dir:=[]) envOk a5q rfl Tryz.func191 (by kernel_rfl) (by kernel_rfl) (by kernel_rfl) (by kernel_rfl) (a4q (by kernel_rfl) h)
def T0q:b4q:=⟨[(5,⟨[0,4,5],[],[],[],[],[],[]⟩)],[]⟩
def y9q (r:AV) (O:List (Nat×Ob)) (s:ByteArray) (n i:Int):Prop:=CLk 43 env T0q (a2q Tryz.f202) [1,1,1,0,1,0,0] (e0q env [.tmp 2,.tmp 3] (.t [.c (.i .i64),.c .b]) [] [] r O) ⟨[(0,(T s)),(4,(Z n)),(5,(Z i))],[]⟩
theorem U0q {r:AV} {O:List (Nat×Ob)} {s:ByteArray} {n i:Int} (h:ifB (decide (i<(s.size:Int)))
 (∃n1:Nat,∃b:UInt8,i=n1/\(s[n1]?)=some b/\ifB (decide ((↑(a9z b):Int)<48))
 ((.tup [Z 0,B false])=r/\[]=O)
 (∃n2:Nat,∃b1:UInt8,i=n2/\(s[n2]?)=some b1/\ifB (decide ((57:Int)<(↑(a9z b1):Int)))
 ((.tup [Z 0,B false])=r/\[]=O)
 (∃n3:Nat,∃b2:UInt8,i=n3/\(s[n3]?)=some b2/\y9q r O s (a0z .i64 (a0z .i64 (a0z .i64 ((10:Int)*n)+a0z .i64 (↑(a9z b2):Int))-48)) (a0z .i64 (i+1)))))
 (∃q,XC pg 174 [Z n] [] (T q) []/\ifB (decide (q≠s))
 ((.tup [Z 0,B false])=r/\[]=O)
 ((.tup [Z n,B true])=r/\[]=O))):y9q r O s n i:=by
 unfold y9q CLk
 refine c6q (E:=env) (hs:=T0q) envOk a5q ?_
 exact a4q (by kernel_rfl) h
theorem a66q {s:ByteArray} {r:AV} {O:List (Nat×Ob)} (h:ifB (decide ((s.size:Int)<1))
 ((.tup [Z 0,B false])=r/\[]=O)
 (ifB (decide ((6:Int)<(s.size:Int)))
 ((.tup [Z 0,B false])=r/\[]=O)
 (y9q r O s (0:Int) (0:Int)))):XC pg 202 [(T s)] [] r O :=
 c1q (E:=env) (hs:=T0q) (c:=(a2q Tryz.f202)) (n:=43) (res:=[.tmp 2,.tmp 3]) (rs:=.t [.c (.i .i64),.c .b]) (ks:=[]) (dir:=[]) envOk a5q rfl Tryz.func202 (by kernel_rfl) (by kernel_rfl) (by kernel_rfl) (by kernel_rfl) (a4q (by kernel_rfl) h)
def a9jq:b4q:=⟨[],[]⟩
theorem a75q {v:Int} {r:AV} {O:List (Nat×Ob)} (h:(.dat (r3 (-1:Int) v []))=r/\[]=O):XC pg 166 [(Z v)] [] r O :=
 c1q (E:=env) (hs:=a9jq) (c:=(a2q Tryz.f166)) (n:=5) (res:=[.cell 2 52]) (rs:=.d [(.i .i64),(.i .i64),.l]) (ks:=[]) (dir:=[]) envOk a5q rfl Tryz.func166 (by kernel_rfl) (by kernel_rfl) (by kernel_rfl) (by kernel_rfl) (a4q (by kernel_rfl) h)
def P3q:b4q:=⟨[(4,⟨[0,3,4,5],[],[],[],[],[],[]⟩)],[]⟩
def f0q (r:AV) (O:List (Nat×Ob)) (s3 s4 s5:Int) (s0:LL) (s01:Int) (s02:Bool) (s03 s04:LL):Prop:=CLk 72 env P3q (a2q Tryz.f203) [1,1,1,0,1,0,0] (M0q env [.tmp 2] (.c (.i .i64)) [(2000,(true)),(2001,(false)),(2002,(false))] [2000] r O) ⟨[(0,(.one (.op 2000 0))),(3,(Z s3)),(4,(Z s4)),(5,(Z s5))],[(2000,(.var [(.d (.sl s0)),(.d (.int .i64 s01)),(.d (.bool s02)),(.ol 1900),(.ol 1901)])),(1900,(.lst 104 3 s03)),(1901,(.lst 29 1 s04))]⟩
theorem R4q {r:AV} {O:List (Nat×Ob)} {s3 s4 s5:Int} {s0:LL} {s01:Int} {s02:Bool} {s03 s04:LL} (h:ifB (decide (s5<(s0.length:Int)))
 (∃m:Nat,s5=m/\∃q,(s0[m]?)=some [.str q]/\ifB (decide (q=⟨#[40]⟩))
 (f0q r O s3 (a0z .i64 (s4+1)) (a0z .i64 (s5+1)) s0 s01 s02 s03 s04)
 (∃m1:Nat,s5=m1/\∃q1,(s0[m1]?)=some [.str q1]/\ifB (decide (q1=⟨#[41]⟩))
 (ifB (decide (s4=0))
 (Z s3=r/\(o1_ s0 s01 s02 s03 s04)=O)
 (∃m2:Nat,s5=m2/\∃q2,(s0[m2]?)=some [.str q2]/\ifB (decide (q2=⟨#[41]⟩))
 (f0q r O s3 (a0z .i64 (s4-1)) (a0z .i64 (s5+1)) s0 s01 s02 s03 s04)
 (∃m3:Nat,s5=m3/\∃q3,(s0[m3]?)=some [.str q3]/\ifB (decide (q3=⟨#[44]⟩))
 (ifB (decide (s4=0))
 (f0q r O (a0z .i64 (s3+1)) s4 (a0z .i64 (s5+1)) s0 s01 s02 s03 s04)
 (f0q r O s3 s4 (a0z .i64 (s5+1)) s0 s01 s02 s03 s04))
 (f0q r O s3 s4 (a0z .i64 (s5+1)) s0 s01 s02 s03 s04))))
 (∃m4:Nat,s5=m4/\∃q4,(s0[m4]?)=some [.str q4]/\ifB (decide (q4=⟨#[41]⟩))
 (f0q r O s3 (a0z .i64 (s4-1)) (a0z .i64 (s5+1)) s0 s01 s02 s03 s04)
 (∃m5:Nat,s5=m5/\∃q5,(s0[m5]?)=some [.str q5]/\ifB (decide (q5=⟨#[44]⟩))
 (ifB (decide (s4=0))
 (f0q r O (a0z .i64 (s3+1)) s4 (a0z .i64 (s5+1)) s0 s01 s02 s03 s04)
 (f0q r O s3 s4 (a0z .i64 (s5+1)) s0 s01 s02 s03 s04))
 (f0q r O s3 s4 (a0z .i64 (s5+1)) s0 s01 s02 s03 s04)))))
 (Z s3=r/\(o1_ s0 s01 s02 s03 s04)=O)):f0q r O s3 s4 s5 s0 s01 s02 s03 s04:=by
 unfold f0q CLk
 refine c6q (E:=env) (hs:=P3q) envOk a5q ?_
 exact a4q (by kernel_rfl) h
theorem a4Fq {o2000:LL} {o20001:Int} {o20002:Bool} {o20003 o20004:LL} {r:AV} {O:List (Nat×Ob)} (h:f0q r O (1:Int) (0:Int) (a0z .i64 (o20001+1)) o2000 o20001 o20002 o20003 o20004):XC pg 203 [(.one (.op 2000 0))] (o5_ o2000 o20001 o20002 o20003 o20004) r O :=
 w9q (E:=env) (hs:=P3q) (c:=(a2q Tryz.f203)) (n:=72) (res:=[.tmp 2]) (rs:=.c (.i .i64)) (ks:=[(2000,(true)),(2001,(false)),(2002,(false))]) (dir:=[2000]) envOk a5q [(2000,2000),(2001,1001),(2002,1002)] [] (by kernel_rfl) rfl Tryz.func203 (by kernel_rfl) (by kernel_rfl) (by kernel_rfl) (by kernel_rfl) (a4q (by kernel_rfl) h)
def a7jq:b4q:=⟨[],[]⟩
theorem a60q {p:ByteArray} {p1:Int} {o2000:LL} {o20001:Int} {o20002:Bool} {o20003 o20004:LL} {r:AV} {O:List (Nat×Ob)} (h:∃n,XC pg 150 [L o20003,T p] [] (Z n) []/\ifB (decide (n<0))
 (∃b,XC pg 149 [T p] [] (B b) []/\ifB (!b)
 (Z 0=r/\(o1_ o2000 o20001 false o20003 o20004)=O)
 (ifB (decide (p=⟨#[97,99]⟩))
 (Z 0=r/\(o1_ o2000 o20001 false o20003 o20004)=O)
 (ifB (decide ((3:Int)<p1))
 (Z 0=r/\(o1_ o2000 o20001 false o20003 o20004)=O)
 (ifB (decide ((8:Int)<=(o20003.length:Int)))
 (Z 0=r/\(o1_ o2000 o20001 false o20003 o20004)=O)
 (Do ((o20003.length+a2z [[Da.str p,Da.int a1z p1,Da.bool false]])*32<=140737488355328)/\(Z (a0z .i64 (((o20003++[[Da.str p,Da.int a1z p1,Da.bool false]]).length:Int)-1)))=r/\(o1_ o2000 o20001 o20002 (o20003++[[Da.str p,Da.int a1z p1,Da.bool false]]) o20004)=O)))))
 (∃m:Nat,n=m/\Do (m<o20003.length)/\∃n1:Nat,(m*3+2)=(n1*3+2)/\∃q n2 b1,(o20003[n1]?)=some [.str q,.int .i64 n2,.bool b1]/\ifB b1
 (ifB (decide (p1<2))
 (Z n=r/\(o1_ o2000 o20001 false o20003 o20004)=O)
 (∃m1:Nat,n=m1/\Do (m1<o20003.length)/\∃n3:Nat,(m1*3+2)=(n3*3+2)/\∃q1 n4 b2,(o20003[n3]?)=some [.str q1,.int .i64 n4,.bool b2]/\ifB (!b2)
 (∃m2:Nat,n=m2/\Do (m2<o20003.length)/\∃n5:Nat,(m2*3+1)=(n5*3+1)/\∃q2 n6 b3,(o20003[n5]?)=some [.str q2,.int .i64 n6,.bool b3]/\ifB (decide (n6≠p1))
 (Z n=r/\(o1_ o2000 o20001 false o20003 o20004)=O)
 (Z n=r/\(o1_ o2000 o20001 o20002 o20003 o20004)=O))
 (Z n=r/\(o1_ o2000 o20001 o20002 o20003 o20004)=O)))
 (∃m3:Nat,n=m3/\Do (m3<o20003.length)/\∃n7:Nat,(m3*3+2)=(n7*3+2)/\∃q3 n8 b4,(o20003[n7]?)=some [.str q3,.int .i64 n8,.bool b4]/\ifB (!b4)
 (∃m4:Nat,n=m4/\Do (m4<o20003.length)/\∃n9:Nat,(m4*3+1)=(n9*3+1)/\∃q4 n10 b5,(o20003[n9]?)=some [.str q4,.int .i64 n10,.bool b5]/\ifB (decide (n10≠p1))
 (Z n=r/\(o1_ o2000 o20001 false o20003 o20004)=O)
 (Z n=r/\(o1_ o2000 o20001 o20002 o20003 o20004)=O))
 (Z n=r/\(o1_ o2000 o20001 o20002 o20003 o20004)=O)))):XC pg 204 [(.one (.op 2000 0)),(T p),(Z p1)] (o5_ o2000 o20001 o20002 o20003 o20004) r O :=
 w9q (E:=env) (hs:=a7jq) (c:=(a2q Tryz.f204)) (n:=95) (res:=[.tmp 6]) (rs:=.c (.i .i64)) (ks:=[(2000,(true)),(2001,(false)),(2002,(false))]) (dir:=[2000]) envOk a5q [(2000,2000),(2001,1001),(2002,1002)] [] (by kernel_rfl) rfl Tryz.func204 (by kernel_rfl) (by kernel_rfl) (by kernel_rfl) (by kernel_rfl) (a4q (by kernel_rfl) h)
def a9Oq:b4q:=⟨[],[]⟩
theorem a8Oq {f:Int} {kids:LL} {r:AV} {O:List (Nat×Ob)} (h:(.dat (r3 f (0:Int) kids))=r/\[]=O):XC pg 165 [(Z f),(L kids)] [] r O :=
 c1q (E:=env) (hs:=a9Oq) (c:=(a2q Tryz.f165)) (n:=8) (res:=[.cell 4 52]) (rs:=.d [(.i .i64),(.i .i64),.l]) (ks:=[]) (dir:=[]) envOk a5q rfl Tryz.func165 (by kernel_rfl) (by kernel_rfl) (by kernel_rfl) (by kernel_rfl) (a4q (by kernel_rfl) h)
def O7q:b4q:=⟨[(2,⟨[0,3],[],[],[],[],[3],[]⟩)],[]⟩
def t0q (r:AV) (O:List (Nat×Ob)) (c:LL) (c1:Int) (c2:Bool) (out c3 c4:LL):Prop:=CLk 26 env O7q (a2q Tryz.f205) [1,1,0,0,0] (M0q env [.tmp 2] (.c .l) [(2000,(true)),(2001,(false)),(2002,(false))] [2000] r O) ⟨[(0,(.one (.op 2000 0))),(3,(.one (.ol 1900)))],[(2000,(.var [(.d (.sl c)),(.d (.int .i64 c1)),(.d (.bool c2)),(.ol 1901),(.ol 1902)])),(1900,(.lst 52 3 out)),(1901,(.lst 104 3 c3)),(1902,(.lst 29 1 c4))]⟩
theorem Q9q {r:AV} {O:List (Nat×Ob)} {c:LL} {c1:Int} {c2:Bool} {out c3 c4:LL} (h:ifB c2
 (∃n n1 xs xs1 m b xs2 xs3,XC pg 190 [.one (.op 2000 0)] (o0_ c c1 c2 c3 c4) (.dat (r3 n n1 xs)) (o1_ xs1 m b xs2 xs3)/\Do ((out.length+a2z [(r3 n n1 xs)])*40<=140737488355328)/\∃b1 xs4 m1 b2 xs5 xs6,XC pg 146 [.one (.op 2000 0),T ⟨#[41]⟩] (o0_ xs1 m b xs2 xs3) (B b1) (o1_ xs4 m1 b2 xs5 xs6)/\ifB b1
 ((L (out++[(r3 n n1 xs)]))=r/\(o1_ xs4 m1 b2 xs5 xs6)=O)
 (∃b3 xs7 m2 b4 xs8 xs9,XC pg 146 [.one (.op 2000 0),T ⟨#[44]⟩] (o0_ xs4 m1 b2 xs5 xs6) (B b3) (o1_ xs7 m2 b4 xs8 xs9)/\ifB (!b3)
 (t0q r O xs7 m2 (false) (out++[(r3 n n1 xs)]) xs8 xs9)
 (t0q r O xs7 m2 b4 (out++[(r3 n n1 xs)]) xs8 xs9)))
 (L out=r/\(o1_ c c1 c2 c3 c4)=O)):t0q r O c c1 c2 out c3 c4:=by
 unfold t0q CLk
 refine c6q (E:=env) (hs:=O7q) envOk a5q ?_
 exact a4q (by kernel_rfl) h
theorem a4Tq {o2000:LL} {o20001:Int} {o20002:Bool} {o20003 o20004:LL} {r:AV} {O:List (Nat×Ob)} (h:t0q r O o2000 o20001 o20002 [] o20003 o20004):XC pg 205 [(.one (.op 2000 0))] (o5_ o2000 o20001 o20002 o20003 o20004) r O :=
 w9q (E:=env) (hs:=O7q) (c:=(a2q Tryz.f205)) (n:=26) (res:=[.tmp 2]) (rs:=.c .l) (ks:=[(2000,(true)),(2001,(false)),(2002,(false))]) (dir:=[2000]) envOk a5q [(2000,2000),(2001,1001),(2002,1002)] [] (by kernel_rfl) rfl Tryz.func205 (by kernel_rfl) (by kernel_rfl) (by kernel_rfl) (by kernel_rfl) (a4q (by kernel_rfl) h)
def a92q:b4q:=⟨[],[]⟩
theorem a7zq {s:LL} {f:Int} {r:AV} {O:List (Nat×Ob)} (h:∃b,XC pg 95 [Z f,Z 0,Z (a0z .i64 ((s.length:Int)-1))] [] (B b) []/\ifB b
 (∃m:Nat,f=m/\∃q n b1,(s[m]?)=some [.str q,.int .i64 n,.bool b1]/\B b1=r/\[]=O)
 (B false=r/\[]=O)):XC pg 167 [(L s),(Z f)] [] r O :=
 c1q (E:=env) (hs:=a92q) (c:=(a2q Tryz.f167)) (n:=17) (res:=[.tmp 4]) (rs:=.c .b) (ks:=[]) (dir:=[]) envOk a5q rfl Tryz.func167 (by kernel_rfl) (by kernel_rfl) (by kernel_rfl) (by kernel_rfl) (a4q (by kernel_rfl) h)
def W9q:b4q:=⟨[(2,⟨[0,3,5],[],[],[],[],[],[]⟩)],[]⟩
def B8q (r:AV) (O:List (Nat×Ob)) (list:LL) (at_ t t1:Int) (t2:LL):Prop:=CLk 36 env W9q (a2q Tryz.f168) [1,1,0,0,0] (e0q env [.tmp 4] (.b 52 3) [] [] r O) ⟨[(0,(L list)),(3,(.one (.op 1900 0))),(5,(Z at_))],[(1900,(.var [(.d (.int .i64 t)),(.d (.int .i64 t1)),(.d (.sl t2))]))]⟩
theorem X9q {r:AV} {O:List (Nat×Ob)} {list:LL} {at_ t t1:Int} {t2:LL} (h:ifB (decide (at_<(list.length:Int)))
 (∃m:Nat,at_=m/\∃n n1 xs,(list[m]?)=some (r3 n n1 xs)/\∃b,XC pg 118 [.dat (r3 t t1 t2),.dat (r3 n n1 xs)] [] (B b) []/\ifB (!b)
 (B8q r O list (a0z .i64 (at_+1)) t t1 t2)
 (∃n2:Nat,at_=n2/\Do ((0:Nat)<=n2/\n2<=list.length)/\Do (∀(c:List Da),c∈list->c.length=TI.n { agg:=true,n:=(3:Nat),b:=(40:Nat),el:=none,fs:=[some ((0:Nat),(1:Nat),false),some ((1:Nat),(1:Nat),false),some ((2:Nat),(1:Nat),false)],pr:=(5:Nat),ik:=none })/\Do (∀(y:List Da),y∈a8z (0:Nat) (a7z n2 list)->y.length=Prod.fst ((3:Nat),(40:Nat),[At.d (Da.int a1z 0),At.d (Da.int a1z 0),At.e0]))/\Do ((a2z ([]:LL)+a2z (a8z (0:Nat) (a7z n2 list)))*40<=140737488355328)/\Do ((a2z ([]++a8z (0:Nat) (a7z n2 list))+a2z [(r3 t t1 t2)])*40<=140737488355328)/\∃n3:Nat,at_=n3/\Do (n3<=list.length/\list.length<=list.length)/\Do (∀(c:List Da),c∈list->c.length=TI.n { agg:=true,n:=(3:Nat),b:=(40:Nat),el:=none,fs:=[some ((0:Nat),(1:Nat),false),some ((1:Nat),(1:Nat),false),some ((2:Nat),(1:Nat),false)],pr:=(5:Nat),ik:=none })/\Do (∀(y:List Da),y∈a8z n3 (a7z (list.length) list)->y.length=Prod.fst ((3:Nat),(40:Nat),[At.d (Da.int a1z 0),At.d (Da.int a1z 0),At.e0]))/\Do ((a2z ([]++a8z (0:Nat) (a7z n2 list)++[(r3 t t1 t2)])+a2z (a8z n3 (a7z (list.length) list)))*40<=140737488355328)/\(.one (.ol 0))=r/\[(0,.lst 52 3 ([]++a8z (0:Nat) (a7z n2 list)++[(r3 t t1 t2)]++a8z n3 (a7z (list.length) list)))]=O))
 (∃n4:Nat,at_=n4/\Do ((0:Nat)<=n4/\n4<=list.length)/\Do (∀(c:List Da),c∈list->c.length=TI.n { agg:=true,n:=(3:Nat),b:=(40:Nat),el:=none,fs:=[some ((0:Nat),(1:Nat),false),some ((1:Nat),(1:Nat),false),some ((2:Nat),(1:Nat),false)],pr:=(5:Nat),ik:=none })/\Do (∀(y:List Da),y∈a8z (0:Nat) (a7z n4 list)->y.length=Prod.fst ((3:Nat),(40:Nat),[At.d (Da.int a1z 0),At.d (Da.int a1z 0),At.e0]))/\Do ((a2z ([]:LL)+a2z (a8z (0:Nat) (a7z n4 list)))*40<=140737488355328)/\Do ((a2z ([]++a8z (0:Nat) (a7z n4 list))+a2z [(r3 t t1 t2)])*40<=140737488355328)/\∃n5:Nat,at_=n5/\Do (n5<=list.length/\list.length<=list.length)/\Do (∀(c:List Da),c∈list->c.length=TI.n { agg:=true,n:=(3:Nat),b:=(40:Nat),el:=none,fs:=[some ((0:Nat),(1:Nat),false),some ((1:Nat),(1:Nat),false),some ((2:Nat),(1:Nat),false)],pr:=(5:Nat),ik:=none })/\Do (∀(y:List Da),y∈a8z n5 (a7z (list.length) list)->y.length=Prod.fst ((3:Nat),(40:Nat),[At.d (Da.int a1z 0),At.d (Da.int a1z 0),At.e0]))/\Do ((a2z ([]++a8z (0:Nat) (a7z n4 list)++[(r3 t t1 t2)])+a2z (a8z n5 (a7z (list.length) list)))*40<=140737488355328)/\(.one (.ol 0))=r/\[(0,.lst 52 3 ([]++a8z (0:Nat) (a7z n4 list)++[(r3 t t1 t2)]++a8z n5 (a7z (list.length) list)))]=O)):B8q r O list at_ t t1 t2:=by
 unfold B8q CLk
 refine c6q (E:=env) (hs:=W9q) envOk a5q ?_
 exact a4q (by kernel_rfl) h
theorem a7Hq {list:LL} {t t1:Int} {t2:LL} {r:AV} {O:List (Nat×Ob)} (h:B8q r O list (0:Int) t t1 t2):XC pg 168 [(L list),(.dat [(.int .i64 t),(.int .i64 t1),(.sl t2)])] [] r O :=
 c1q (E:=env) (hs:=W9q) (c:=(a2q Tryz.f168)) (n:=36) (res:=[.tmp 4]) (rs:=.b 52 3) (ks:=[]) (dir:=[]) envOk a5q rfl Tryz.func168 (by kernel_rfl) (by kernel_rfl) (by kernel_rfl) (by kernel_rfl) (a4q (by kernel_rfl) h)
def Y7q:b4q:=⟨[(3,⟨[1,3,4],[],[],[],[],[],[]⟩)],[]⟩
def B5q (r:AV) (O:List (Nat×Ob)) (n i:Int) (t t1:Int) (t2:LL):Prop:=CLk 21 env Y7q (a2q Tryz.f177) [1,1,0,1,0,0] (e0q env [.tmp 2] (.c (.i .i64)) [] [] r O) ⟨[(1,(.one (.op 1900 0))),(3,(Z n)),(4,(Z i))],[(1900,(.var [(.d (.int .i64 t)),(.d (.int .i64 t1)),(.d (.sl t2))]))]⟩
theorem Y9q {r:AV} {O:List (Nat×Ob)} {n i t t1:Int} {t2:LL} (h:ifB (decide (i<(t2.length:Int)))
 (∃m:Nat,i=m/\∃n1 n2 xs,(t2[m]?)=some (r3 n1 n2 xs)/\∃n3,XC pg 177 [.dat (r3 n1 n2 xs)] [] (Z n3) []/\B5q r O (a0z .i64 (n+n3)) (a0z .i64 (i+1)) t t1 t2)
 (Z n=r/\[]=O)):B5q r O n i t t1 t2:=by
 unfold B5q CLk
 refine c6q (E:=env) (hs:=Y7q) envOk a5q ?_
 exact a4q (by kernel_rfl) h
theorem a7Pq {t t1:Int} {t2:LL} {r:AV} {O:List (Nat×Ob)} (h:B5q r O (1:Int) (0:Int) t t1 t2):XC pg 177 [(.dat [(.int .i64 t),(.int .i64 t1),(.sl t2)])] [] r O :=
 c1q (E:=env) (hs:=Y7q) (c:=(a2q Tryz.f177)) (n:=21) (res:=[.tmp 2]) (rs:=.c (.i .i64)) (ks:=[]) (dir:=[]) envOk a5q rfl Tryz.func177 (by kernel_rfl) (by kernel_rfl) (by kernel_rfl) (by kernel_rfl) (a4q (by kernel_rfl) h)
def P7q:b4q:=⟨[(6,⟨[0,3,5],[],[],[],[],[],[]⟩)],[]⟩
def i5q (r:AV) (O:List (Nat×Ob)) (s0:LL) (s5 s3 s31:Int) (s32:LL):Prop:=CLk 117 env P7q (a2q Tryz.f178) [1,1,1,0,1,0,0] (e0q env [.tmp 4] (.c .b) [] [] r O) ⟨[(0,(L s0)),(3,(.one (.op 1900 0))),(5,(Z s5))],[(1900,(.var [(.d (.int .i64 s3)),(.d (.int .i64 s31)),(.d (.sl s32))]))]⟩
theorem R6q {r:AV} {O:List (Nat×Ob)} {s0:LL} {s5 s3 s31:Int} {s32:LL} (h:ifB (decide (s5<(s32.length:Int)))
 (∃m:Nat,s3=m/\∃q n b,(s0[m]?)=some [.str q,.int .i64 n,.bool b]/\ifB b
 (∃m1:Nat,s5=m1/\∃n1 n2 xs,(s32[m1]?)=some (r3 n1 n2 xs)/\ifB (decide (n1=s3))
 (B false=r/\[]=O)
 (ifB (decide ((0:Int)<s5))
 (∃m2:Nat,s5=m2/\∃n3 n4 xs1,(s32[m2]?)=some (r3 n3 n4 xs1)/\∃m3:Nat,(a0z .i64 (s5-1))=(m3:Int)/\∃n5 n6 xs2,(s32[m3]?)=some (r3 n5 n6 xs2)/\∃b1,XC pg 118 [.dat (r3 n3 n4 xs1),.dat (r3 n5 n6 xs2)] [] (B b1) []/\ifB b1
 (B false=r/\[]=O)
 (∃m4:Nat,s5=m4/\∃n7 n8 xs3,(s32[m4]?)=some (r3 n7 n8 xs3)/\∃b2,XC pg 178 [L s0,.dat (r3 n7 n8 xs3)] [] (B b2) []/\ifB (!b2)
 (B false=r/\[]=O)
 (i5q r O s0 (a0z .i64 (s5+1)) s3 s31 s32)))
 (∃m5:Nat,s5=m5/\∃n9 n10 xs4,(s32[m5]?)=some (r3 n9 n10 xs4)/\∃b3,XC pg 178 [L s0,.dat (r3 n9 n10 xs4)] [] (B b3) []/\ifB (!b3)
 (B false=r/\[]=O)
 (i5q r O s0 (a0z .i64 (s5+1)) s3 s31 s32))))
 (∃m6:Nat,s5=m6/\∃n11 n12 xs5,(s32[m6]?)=some (r3 n11 n12 xs5)/\∃b4,XC pg 178 [L s0,.dat (r3 n11 n12 xs5)] [] (B b4) []/\ifB (!b4)
 (B false=r/\[]=O)
 (i5q r O s0 (a0z .i64 (s5+1)) s3 s31 s32)))
 (B true=r/\[]=O)):i5q r O s0 s5 s3 s31 s32:=by
 unfold i5q CLk
 refine c6q (E:=env) (hs:=P7q) envOk a5q ?_
 exact a4q (by kernel_rfl) h
theorem a4Iq {p:LL} {p1 p2:Int} {p3:LL} {r:AV} {O:List (Nat×Ob)} (h:ifB (decide (p1=(-1:Int)))
 (∃b,XC pg 95 [Z p2,Z 0,Z 99] [] (B b) []/\ifB b
 ((B (decide ((p3.length:Int)=0)))=r/\[]=O)
 (B false=r/\[]=O))
 (∃b1,XC pg 95 [Z p1,Z 0,Z (a0z .i64 ((p.length:Int)-1))] [] (B b1) []/\ifB (!b1)
 (B false=r/\[]=O)
 (ifB (decide (p2≠0))
 (B false=r/\[]=O)
 (∃m:Nat,p1=m/\∃q n b2,(p[m]?)=some [.str q,.int .i64 n,.bool b2]/\ifB (!b2)
 (∃m1:Nat,p1=m1/\∃q1 n1 b3,(p[m1]?)=some [.str q1,.int .i64 n1,.bool b3]/\ifB (decide ((p3.length:Int)≠n1))
 (B false=r/\[]=O)
 (∃m2:Nat,p1=m2/\∃q2 n2 b4,(p[m2]?)=some [.str q2,.int .i64 n2,.bool b4]/\ifB b4
 (ifB (decide ((p3.length:Int)<2))
 (B false=r/\[]=O)
 (i5q r O p (0:Int) p1 p2 p3))
 (i5q r O p (0:Int) p1 p2 p3)))
 (∃m3:Nat,p1=m3/\∃q3 n3 b5,(p[m3]?)=some [.str q3,.int .i64 n3,.bool b5]/\ifB b5
 (ifB (decide ((p3.length:Int)<2))
 (B false=r/\[]=O)
 (i5q r O p (0:Int) p1 p2 p3))
 (i5q r O p (0:Int) p1 p2 p3)))))):XC pg 178 [(L p),(.dat [(.int .i64 p1),(.int .i64 p2),(.sl p3)])] [] r O :=
 c1q (E:=env) (hs:=P7q) (c:=(a2q Tryz.f178)) (n:=117) (res:=[.tmp 4]) (rs:=.c .b) (ks:=[]) (dir:=[]) envOk a5q rfl Tryz.func178 (by kernel_rfl) (by kernel_rfl) (by kernel_rfl) (by kernel_rfl) (a4q (by kernel_rfl) h)
def a6dq:b4q:=⟨[],[]⟩
theorem a4uq {x:ByteArray} {x1:Int} {x2:Bool} {o2000:ByteArray} {r:AV} {O:List (Nat×Ob)} (h:(B (decide (x=o2000)))=r/\[(2000,.var [.d (.str o2000)])]=O):XC pg 155 [(.dat [(.str x),(.int .i64 x1),(.bool x2)]),(.one (.op 2000 0))] [(2000,(.var [(.d (.str o2000))]))] r O :=
 c1q (E:=env) (hs:=a6dq) (c:=(a2q Tryz.f155)) (n:=8) (res:=[.tmp 3]) (rs:=.c .b) (ks:=[(2000,(true))]) (dir:=[2000]) envOk a5q rfl Tryz.func155 (by kernel_rfl) (by kernel_rfl) (by kernel_rfl) (by kernel_rfl) (a4q (by kernel_rfl) h)
def Z7q:b4q:=⟨[],[]⟩
theorem D9q {s prefix_:ByteArray} {r:AV} {O:List (Nat×Ob)} (h:∃b,XC pg 183 [T s,T prefix_] [] (B b) []/\ifB (!b)
 ((.tup [T s,B false])=r/\[]=O)
 (∃n:Nat,(prefix_.size:Int)=(n:Int)/\Do (n<=a4z s/\a4z s<=a4z s)/\.tup [T (a5z s n (a4z s)),B true]=r/\[]=O)):XC pg 201 [(T s),(T prefix_)] [] r O :=
 c1q (E:=env) (hs:=Z7q) (c:=(a2q Tryz.f201)) (n:=15) (res:=[.tmp 4,.tmp 5]) (rs:=.t [.c .s,.c .b]) (ks:=[]) (dir:=[]) envOk a5q rfl Tryz.func201 (by kernel_rfl) (by kernel_rfl) (by kernel_rfl) (by kernel_rfl) (a4q (by kernel_rfl) h)
def a7cq:b4q:=⟨[],[]⟩
theorem a6zq {n:Int} {r:AV} {O:List (Nat×Ob)} (h:ifB (decide (n<0))
 (ifB (decide ((-10:Int)<n))
 (∃q,XC pg 97 [Z (a0z .i64 ((0:Int)-n))] [] (T q) []/\Do (a4z (⟨#[45]⟩++q)<=281474976710656)/\(T (⟨#[45]⟩++q))=r/\[]=O)
 (ifB (decide (n<0))
 (Do ((10:Int)≠(0:Int))/\∃q1,XC pg 97 [Z (a0z .i64 (alz n (10:Int)))] [] (T q1) []/\Do ((10:Int)≠(0:Int))/\∃q2,XC pg 97 [Z (a0z .i64 ((0:Int)-abz n (10:Int)))] [] (T q2) []/\Do (a4z (q1++q2)<=281474976710656)/\(T (q1++q2))=r/\[]=O)
 (ifB (decide (n<10))
 (Do (a4z (acz (a0z adz (a0z .i64 ((48:Int)+n))))<=281474976710656)/\(T (acz (a0z adz (a0z .i64 ((48:Int)+n)))))=r/\[]=O)
 (Do ((10:Int)≠(0:Int))/\∃q3,XC pg 97 [Z (a0z .i64 (alz n (10:Int)))] [] (T q3) []/\Do ((10:Int)≠(0:Int))/\Do (a4z (acz (a0z adz (a0z .i64 ((48:Int)+abz n (10:Int)))))<=281474976710656)/\Do (a4z (q3++acz (a0z adz (a0z .i64 ((48:Int)+abz n (10:Int)))))<=281474976710656)/\(T (q3++acz (a0z adz (a0z .i64 ((48:Int)+abz n (10:Int))))))=r/\[]=O))))
 (ifB (decide (n<0))
 (Do ((10:Int)≠(0:Int))/\∃q4,XC pg 97 [Z (a0z .i64 (alz n (10:Int)))] [] (T q4) []/\Do ((10:Int)≠(0:Int))/\∃q5,XC pg 97 [Z (a0z .i64 ((0:Int)-abz n (10:Int)))] [] (T q5) []/\Do (a4z (q4++q5)<=281474976710656)/\(T (q4++q5))=r/\[]=O)
 (ifB (decide (n<10))
 (Do (a4z (acz (a0z adz (a0z .i64 ((48:Int)+n))))<=281474976710656)/\(T (acz (a0z adz (a0z .i64 ((48:Int)+n)))))=r/\[]=O)
 (Do ((10:Int)≠(0:Int))/\∃q6,XC pg 97 [Z (a0z .i64 (alz n (10:Int)))] [] (T q6) []/\Do ((10:Int)≠(0:Int))/\Do (a4z (acz (a0z adz (a0z .i64 ((48:Int)+abz n (10:Int)))))<=281474976710656)/\Do (a4z (q6++acz (a0z adz (a0z .i64 ((48:Int)+abz n (10:Int)))))<=281474976710656)/\(T (q6++acz (a0z adz (a0z .i64 ((48:Int)+abz n (10:Int))))))=r/\[]=O)))):XC pg 97 [(Z n)] [] r O :=
 c1q (E:=env) (hs:=a7cq) (c:=(a2q Tryz.f97)) (n:=41) (res:=[.tmp 2]) (rs:=.c .s) (ks:=[]) (dir:=[]) envOk a5q rfl Tryz.func97 (by kernel_rfl) (by kernel_rfl) (by kernel_rfl) (by kernel_rfl) (a4q (by kernel_rfl) h)
def a8dq:b4q:=⟨[],[]⟩
theorem a7fq {s:LL} {f:Int} {r:AV} {O:List (Nat×Ob)} (h:∃b,XC pg 171 [L s,Z f] [] (B b) []/\ifB b
 (∃m:Nat,f=m/\∃q n b1,(s[m]?)=some [.str q,.int .i64 n,.bool b1]/\B b1=r/\[]=O)
 (B false=r/\[]=O)):XC pg 161 [(L s),(Z f)] [] r O :=
 c1q (E:=env) (hs:=a8dq) (c:=(a2q Tryz.f161)) (n:=15) (res:=[.tmp 4]) (rs:=.c .b) (ks:=[]) (dir:=[]) envOk a5q rfl Tryz.func161 (by kernel_rfl) (by kernel_rfl) (by kernel_rfl) (by kernel_rfl) (a4q (by kernel_rfl) h)
def A4q:b4q:=⟨[],[]⟩
theorem z0q {o2000:LL} {r:AV} {O:List (Nat×Ob)} (h:∃xs,XC pg 192 [.one (.ol 2000),Z (o2000.length:Int),.one (.d (.fn 112))] [(2000,.lst 52 3 o2000)] (.tup []) [(2000,.lst 52 3 xs)]/\.tup []=r/\[(2000,.lst 52 3 xs)]=O):XC pg 162 [(.one (.ol 2000)),(.one (.d (.fn 112)))] [(2000,(.lst 52 3 o2000))] r O :=
 c1q (E:=d0q) (hs:=A4q) (c:=(a2q Tryz.f162)) (n:=9) (res:=[]) (rs:=.t []) (ks:=[(2000,(false))]) (dir:=[2000]) g7q a5q rfl Tryz.func162 (by kernel_rfl) (by kernel_rfl) (by kernel_rfl) (by kernel_rfl) (a4q (by kernel_rfl) h)
def e6q:b4q:=⟨[(1,⟨[0,1,2,3,8],[],[],[],[],[],[]⟩),(4,⟨[0,1,2,3,8,9],[],[],[],[],[],[]⟩)],[]⟩
def c7q (r:AV) (O:List (Nat×Ob)) (a b i:Int) (data:LL):Prop:=CLk 53 d0q e6q (a2q Tryz.f163) [1,0,0] (e0q d0q [] (.t []) [(2000,(false))] [2000] r O) ⟨[(0,(.one (.ol 2000))),(1,(Z a)),(2,(Z b)),(3,(.one (.d (.fn 54)))),(8,(Z i))],[(2000,(.lst 54 7 data))]⟩
def e3q (r:AV) (O:List (Nat×Ob)) (a b:Int) (i j:Int) (data:LL):Prop:=CLk 53 d0q e6q (a2q Tryz.f163) [1,0,0,1,0,0,1,0,0] (e0q d0q [] (.t []) [(2000,(false))] [2000] r O) ⟨[(0,(.one (.ol 2000))),(1,(Z a)),(2,(Z b)),(3,(.one (.d (.fn 54)))),(8,(Z i)),(9,(Z j))],[(2000,(.lst 54 7 data))]⟩
theorem i1q {r:AV} {O:List (Nat×Ob)} {a b i:Int} {data:LL} (h:ifB (decide (i<b))
 (e3q r O a b i i data)
 ((.tup [])=r/\[(2000,.lst 54 7 data)]=O)):c7q r O a b i data:=by
 unfold c7q CLk
 refine c6q (E:=d0q) (hs:=e6q) g7q a5q ?_
 exact a4q (by kernel_rfl) h
theorem i0q {r:AV} {O:List (Nat×Ob)} {a b i j:Int} {data:LL} (h:ifB (decide (a<j))
 (∃m:Nat,j=m/\Do (m<data.length)/\∃n:Nat,(m*7)=(n*7)/\∃b2:Bool,∃n1 n2:Int,∃d:Da,∃n3 n4:Int,∃d1:Da,(data[n]?)=some [.bool b2,.int .i64 n1,.int .i64 n2,d,.int .i64 n3,.int .i64 n4,d1]/\∃m1:Nat,(a0z .i64 (j-1))=(m1:Int)/\Do (m1<data.length)/\∃n5:Nat,(m1*7)=(n5*7)/\∃b3:Bool,∃n6 n7:Int,∃d2:Da,∃n8 n9:Int,∃d3:Da,(data[n5]?)=some [.bool b3,.int .i64 n6,.int .i64 n7,d2,.int .i64 n8,.int .i64 n9,d3]/\∃n10,XC pg 54 [.dat [.bool b2,.int .i64 n1,.int .i64 n2,d,.int .i64 n3,.int .i64 n4,d1],.dat [.bool b3,.int .i64 n6,.int .i64 n7,d2,.int .i64 n8,.int .i64 n9,d3]] [] (Z n10) []/\ifB (decide (n10<0))
 (∃m2:Nat,(a0z .i64 (j-1))=(m2:Int)/\Do (m2<data.length)/\∃n11:Nat,(m2*7)=(n11*7)/\∃b4:Bool,∃n12 n13:Int,∃d4:Da,∃n14 n15:Int,∃d5:Da,(data[n11]?)=some [.bool b4,.int .i64 n12,.int .i64 n13,d4,.int .i64 n14,.int .i64 n15,d5]/\∃m3:Nat,j=m3/\Do (m3<data.length)/\∃n16:Nat,(m3*7)=(n16*7)/\∃b5:Bool,∃n17 n18:Int,∃d6:Da,∃n19 n20:Int,∃d7:Da,(data[n16]?)=some [.bool b5,.int .i64 n17,.int .i64 n18,d6,.int .i64 n19,.int .i64 n20,d7]/\∃m4:Nat,j=m4/\Do (m4<data.length)/\∃m5:Nat,(m4*7)=(m5*7+0)/\∃b6:Bool,∃n21 n22:Int,∃d8:Da,∃n23 n24:Int,∃d9:Da,(data[m5]?)=some [.bool b6,.int .i64 n21,.int .i64 n22,d8,.int .i64 n23,.int .i64 n24,d9]/\∃m6:Nat,(a0z .i64 (j-1))=(m6:Int)/\Do (m6<a2z (a3z data m5 ([]++[Da.bool b4,Da.int a1z n12,Da.int a1z n13,d4,Da.int a1z n14,Da.int a1z n15,d5]++[])))/\∃m7:Nat,(m6*7)=(m7*7+0)/\∃b7:Bool,∃n25 n26:Int,∃d10:Da,∃n27 n28:Int,∃d11:Da,((a3z data m5 ([]++[Da.bool b4,Da.int a1z n12,Da.int a1z n13,d4,Da.int a1z n14,Da.int a1z n15,d5]++[]))[m7]?)=some [.bool b7,.int .i64 n25,.int .i64 n26,d10,.int .i64 n27,.int .i64 n28,d11]/\e3q r O a b i (a0z .i64 (j-1)) (a3z (a3z data m5 ([]++[Da.bool b4,Da.int a1z n12,Da.int a1z n13,d4,Da.int a1z n14,Da.int a1z n15,d5]++[])) m7 ([]++[Da.bool b5,Da.int a1z n17,Da.int a1z n18,d6,Da.int a1z n19,Da.int a1z n20,d7]++[])))
 (c7q r O a b (a0z .i64 (i+1)) data))
 (c7q r O a b (a0z .i64 (i+1)) data)):e3q r O a b i j data:=by
 unfold e3q CLk
 refine c6q (E:=d0q) (hs:=e6q) g7q a5q ?_
 exact a4q (by kernel_rfl) h
theorem l6q {a b:Int} {o2000:LL} {r:AV} {O:List (Nat×Ob)} (h:c7q r O a b (a0z .i64 (a+1)) o2000):XC pg 163 [(.one (.ol 2000)),(Z a),(Z b),(.one (.d (.fn 54)))] [(2000,(.lst 54 7 o2000))] r O :=
 c1q (E:=d0q) (hs:=e6q) (c:=(a2q Tryz.f163)) (n:=53) (res:=[]) (rs:=.t []) (ks:=[(2000,(false))]) (dir:=[2000]) g7q a5q rfl Tryz.func163 (by kernel_rfl) (by kernel_rfl) (by kernel_rfl) (by kernel_rfl) (a4q (by kernel_rfl) h)
def b5q:b4q:=⟨[(3,⟨[0,1,4,10,11],[],[],[],[],[],[]⟩),(9,⟨[0,10,13],[],[],[],[],[],[]⟩),(15,⟨[0,2,4,14,15],[],[],[],[],[],[]⟩),(21,⟨[0,14,17],[],[],[],[],[],[]⟩),(33,⟨[0,1,2,3,4,18,19,20,21,22],[],[],[],[],[],[]⟩)],[]⟩
def b8q (r:AV) (O:List (Nat×Ob)) (s1 s10 s11:Int) (s0:LL):Prop:=CLk 220 d0q b5q (a2q Tryz.f164) [0,1,0,1,1,0,0,0] (e0q d0q [] (.t []) [(2000,(false))] [2000] r O) ⟨[(0,(.one (.ol 2000))),(1,(Z s1)),(4,(.one (.d (.fn 54)))),(10,(Z s10)),(11,(Z s11))],[(2000,(.lst 54 7 s0))]⟩
def b7q (r:AV) (O:List (Nat×Ob)) (s2 s14 s15:Int) (s0:LL):Prop:=CLk 220 d0q b5q (a2q Tryz.f164) [1,0,1,0,1,1,0,0,0] (e0q d0q [] (.t []) [(2000,(false))] [2000] r O) ⟨[(0,(.one (.ol 2000))),(2,(Z s2)),(4,(.one (.d (.fn 54)))),(14,(Z s14)),(15,(Z s15))],[(2000,(.lst 54 7 s0))]⟩
def a8q (r:AV) (O:List (Nat×Ob)) (s1 s2:Int) (s3 s18:Int) (s19 s20:Int) (s21 s22:Int) (s0:LL):Prop:=CLk 220 d0q b5q (a2q Tryz.f164) [1,1,1,1,1,1,1,0,0,0] (e0q d0q [] (.t []) [(2000,(false))] [2000] r O) ⟨[(0,(.one (.ol 2000))),(1,(Z s1)),(2,(Z s2)),(3,(Z s3)),(4,(.one (.d (.fn 54)))),(18,(Z s18)),(19,(Z s19)),(20,(Z s20)),(21,(Z s21)),(22,(Z s22))],[(2000,(.lst 54 7 s0))]⟩
def d7q (r:AV) (O:List (Nat×Ob)) (s10 s13:Int) (s0:LL):Prop:=CLk 220 d0q b5q (a2q Tryz.f164) [0,1,0,1,1,1,0,1,0,0] (e0q d0q [] (.t []) [(2000,(false))] [2000] r O) ⟨[(0,(.one (.ol 2000))),(10,(Z s10)),(13,(Z s13))],[(2000,(.lst 54 7 s0))]⟩
def d6q (r:AV) (O:List (Nat×Ob)) (s14 s17:Int) (s0:LL):Prop:=CLk 220 d0q b5q (a2q Tryz.f164) [1,0,1,0,1,1,1,0,1,0,0] (e0q d0q [] (.t []) [(2000,(false))] [2000] r O) ⟨[(0,(.one (.ol 2000))),(14,(Z s14)),(17,(Z s17))],[(2000,(.lst 54 7 s0))]⟩
theorem m9q {r:AV} {O:List (Nat×Ob)} {s1 s10 s11:Int} {s0:LL} (h:ifB (decide (s10<s11))
 (Do ((0:Int)<=(1:Int)/\(1:Int)<=(↑(agz a6z):Int))/\∃m:Nat,(a0z .i64 (a0z a6z (a0z .i64 (s10+s11)) / (2:Int) ^ aaz (1:Int)))=(m:Int)/\Do (m<s0.length)/\∃n:Nat,(m*7)=(n*7)/\∃b:Bool,∃n1 n2:Int,∃d:Da,∃n3 n4:Int,∃d1:Da,(s0[n]?)=some [.bool b,.int .i64 n1,.int .i64 n2,d,.int .i64 n3,.int .i64 n4,d1]/\∃m1:Nat,s1=m1/\Do (m1<s0.length)/\∃n5:Nat,(m1*7)=(n5*7)/\∃b1:Bool,∃n6 n7:Int,∃d2:Da,∃n8 n9:Int,∃d3:Da,(s0[n5]?)=some [.bool b1,.int .i64 n6,.int .i64 n7,d2,.int .i64 n8,.int .i64 n9,d3]/\∃n10,XC pg 54 [.dat [.bool b,.int .i64 n1,.int .i64 n2,d,.int .i64 n3,.int .i64 n4,d1],.dat [.bool b1,.int .i64 n6,.int .i64 n7,d2,.int .i64 n8,.int .i64 n9,d3]] [] (Z n10) []/\ifB (decide (n10<0))
 (b8q r O s1 (a0z .i64 (a0z .i64 (a0z a6z (a0z .i64 (s10+s11)) / (2:Int) ^ aaz (1:Int))+1)) s11 s0)
 (b8q r O s1 s10 (a0z .i64 (a0z a6z (a0z .i64 (s10+s11)) / (2:Int) ^ aaz (1:Int))) s0))
 (d7q r O s10 s1 s0)):b8q r O s1 s10 s11 s0:=by
 unfold b8q CLk
 refine c6q (E:=d0q) (hs:=b5q) g7q a5q ?_
 exact a4q (by kernel_rfl) h
theorem m2q {r:AV} {O:List (Nat×Ob)} {s2 s14 s15:Int} {s0:LL} (h:ifB (decide (s14<s15))
 (Do ((0:Int)<=(1:Int)/\(1:Int)<=(↑(agz a6z):Int))/\∃m:Nat,s2=m/\Do (m<s0.length)/\∃n:Nat,(m*7)=(n*7)/\∃b:Bool,∃n1 n2:Int,∃d:Da,∃n3 n4:Int,∃d1:Da,(s0[n]?)=some [.bool b,.int .i64 n1,.int .i64 n2,d,.int .i64 n3,.int .i64 n4,d1]/\∃m1:Nat,(a0z .i64 (a0z a6z (a0z .i64 (s14+s15)) / (2:Int) ^ aaz (1:Int)))=(m1:Int)/\Do (m1<s0.length)/\∃n5:Nat,(m1*7)=(n5*7)/\∃b1:Bool,∃n6 n7:Int,∃d2:Da,∃n8 n9:Int,∃d3:Da,(s0[n5]?)=some [.bool b1,.int .i64 n6,.int .i64 n7,d2,.int .i64 n8,.int .i64 n9,d3]/\∃n10,XC pg 54 [.dat [.bool b,.int .i64 n1,.int .i64 n2,d,.int .i64 n3,.int .i64 n4,d1],.dat [.bool b1,.int .i64 n6,.int .i64 n7,d2,.int .i64 n8,.int .i64 n9,d3]] [] (Z n10) []/\ifB (!decide (n10<0))
 (b7q r O s2 (a0z .i64 (a0z .i64 (a0z a6z (a0z .i64 (s14+s15)) / (2:Int) ^ aaz (1:Int))+1)) s15 s0)
 (b7q r O s2 s14 (a0z .i64 (a0z a6z (a0z .i64 (s14+s15)) / (2:Int) ^ aaz (1:Int))) s0))
 (d6q r O s14 s2 s0)):b7q r O s2 s14 s15 s0:=by
 unfold b7q CLk
 refine c6q (E:=d0q) (hs:=b5q) g7q a5q ?_
 exact a4q (by kernel_rfl) h
theorem m3q {r:AV} {O:List (Nat×Ob)} {s1 s2 s3 s18 s19 s20 s21 s22:Int} {s0:LL} (h:ifB (decide (s20<s21))
 (Do ((0:Int)<=(1:Int)/\(1:Int)<=(↑(agz a6z):Int))/\∃m:Nat,(a0z .i64 (s22-a0z .i64 (a0z a6z (a0z .i64 (s20+s21)) / (2:Int) ^ aaz (1:Int))))=(m:Int)/\Do (m<s0.length)/\∃n:Nat,(m*7)=(n*7)/\∃b:Bool,∃n1 n2:Int,∃d:Da,∃n3 n4:Int,∃d1:Da,(s0[n]?)=some [.bool b,.int .i64 n1,.int .i64 n2,d,.int .i64 n3,.int .i64 n4,d1]/\∃m1:Nat,(a0z .i64 (a0z a6z (a0z .i64 (s20+s21)) / (2:Int) ^ aaz (1:Int)))=(m1:Int)/\Do (m1<s0.length)/\∃n5:Nat,(m1*7)=(n5*7)/\∃b1:Bool,∃n6 n7:Int,∃d2:Da,∃n8 n9:Int,∃d3:Da,(s0[n5]?)=some [.bool b1,.int .i64 n6,.int .i64 n7,d2,.int .i64 n8,.int .i64 n9,d3]/\∃n10,XC pg 54 [.dat [.bool b,.int .i64 n1,.int .i64 n2,d,.int .i64 n3,.int .i64 n4,d1],.dat [.bool b1,.int .i64 n6,.int .i64 n7,d2,.int .i64 n8,.int .i64 n9,d3]] [] (Z n10) []/\ifB (!decide (n10<0))
 (a8q r O s1 s2 s3 s18 s19 (a0z .i64 (a0z .i64 (a0z a6z (a0z .i64 (s20+s21)) / (2:Int) ^ aaz (1:Int))+1)) s21 s22 s0)
 (a8q r O s1 s2 s3 s18 s19 s20 (a0z .i64 (a0z a6z (a0z .i64 (s20+s21)) / (2:Int) ^ aaz (1:Int))) s22 s0))
 (ifB (decide (s20<s2))
 (ifB (decide (s2<a0z .i64 (s19-s20)))
 (∃xs,XC pg 193 [.one (.ol 2000),Z s20,Z s2,Z (a0z .i64 (s19-s20)),.one (.d (.fn 54))] [(2000,.lst 54 7 s0)] (.tup []) [(2000,.lst 54 7 xs)]/\ifB (decide (s1<s20))
 (ifB (decide (s20<s18))
 (∃xs1,XC pg 164 [.one (.ol 2000),Z s1,Z s20,Z s18,.one (.d (.fn 54))] [(2000,.lst 54 7 xs)] (.tup []) [(2000,.lst 54 7 xs1)]/\ifB (decide (s18<a0z .i64 (s19-s20)))
 (ifB (decide (a0z .i64 (s19-s20)<s3))
 (∃xs2,XC pg 164 [.one (.ol 2000),Z s18,Z (a0z .i64 (s19-s20)),Z s3,.one (.d (.fn 54))] [(2000,.lst 54 7 xs1)] (.tup []) [(2000,.lst 54 7 xs2)]/\.tup []=r/\[(2000,.lst 54 7 xs2)]=O)
 ((.tup [])=r/\[(2000,.lst 54 7 xs1)]=O))
 ((.tup [])=r/\[(2000,.lst 54 7 xs1)]=O))
 (ifB (decide (s18<a0z .i64 (s19-s20)))
 (ifB (decide (a0z .i64 (s19-s20)<s3))
 (∃xs3,XC pg 164 [.one (.ol 2000),Z s18,Z (a0z .i64 (s19-s20)),Z s3,.one (.d (.fn 54))] [(2000,.lst 54 7 xs)] (.tup []) [(2000,.lst 54 7 xs3)]/\.tup []=r/\[(2000,.lst 54 7 xs3)]=O)
 ((.tup [])=r/\[(2000,.lst 54 7 xs)]=O))
 ((.tup [])=r/\[(2000,.lst 54 7 xs)]=O)))
 (ifB (decide (s18<a0z .i64 (s19-s20)))
 (ifB (decide (a0z .i64 (s19-s20)<s3))
 (∃xs4,XC pg 164 [.one (.ol 2000),Z s18,Z (a0z .i64 (s19-s20)),Z s3,.one (.d (.fn 54))] [(2000,.lst 54 7 xs)] (.tup []) [(2000,.lst 54 7 xs4)]/\.tup []=r/\[(2000,.lst 54 7 xs4)]=O)
 ((.tup [])=r/\[(2000,.lst 54 7 xs)]=O))
 ((.tup [])=r/\[(2000,.lst 54 7 xs)]=O)))
 (ifB (decide (s1<s20))
 (ifB (decide (s20<s18))
 (∃xs5,XC pg 164 [.one (.ol 2000),Z s1,Z s20,Z s18,.one (.d (.fn 54))] [(2000,.lst 54 7 s0)] (.tup []) [(2000,.lst 54 7 xs5)]/\ifB (decide (s18<a0z .i64 (s19-s20)))
 (ifB (decide (a0z .i64 (s19-s20)<s3))
 (∃xs6,XC pg 164 [.one (.ol 2000),Z s18,Z (a0z .i64 (s19-s20)),Z s3,.one (.d (.fn 54))] [(2000,.lst 54 7 xs5)] (.tup []) [(2000,.lst 54 7 xs6)]/\.tup []=r/\[(2000,.lst 54 7 xs6)]=O)
 ((.tup [])=r/\[(2000,.lst 54 7 xs5)]=O))
 ((.tup [])=r/\[(2000,.lst 54 7 xs5)]=O))
 (ifB (decide (s18<a0z .i64 (s19-s20)))
 (ifB (decide (a0z .i64 (s19-s20)<s3))
 (∃xs7,XC pg 164 [.one (.ol 2000),Z s18,Z (a0z .i64 (s19-s20)),Z s3,.one (.d (.fn 54))] [(2000,.lst 54 7 s0)] (.tup []) [(2000,.lst 54 7 xs7)]/\.tup []=r/\[(2000,.lst 54 7 xs7)]=O)
 ((.tup [])=r/\[(2000,.lst 54 7 s0)]=O))
 ((.tup [])=r/\[(2000,.lst 54 7 s0)]=O)))
 (ifB (decide (s18<a0z .i64 (s19-s20)))
 (ifB (decide (a0z .i64 (s19-s20)<s3))
 (∃xs8,XC pg 164 [.one (.ol 2000),Z s18,Z (a0z .i64 (s19-s20)),Z s3,.one (.d (.fn 54))] [(2000,.lst 54 7 s0)] (.tup []) [(2000,.lst 54 7 xs8)]/\.tup []=r/\[(2000,.lst 54 7 xs8)]=O)
 ((.tup [])=r/\[(2000,.lst 54 7 s0)]=O))
 ((.tup [])=r/\[(2000,.lst 54 7 s0)]=O))))
 (ifB (decide (s1<s20))
 (ifB (decide (s20<s18))
 (∃xs9,XC pg 164 [.one (.ol 2000),Z s1,Z s20,Z s18,.one (.d (.fn 54))] [(2000,.lst 54 7 s0)] (.tup []) [(2000,.lst 54 7 xs9)]/\ifB (decide (s18<a0z .i64 (s19-s20)))
 (ifB (decide (a0z .i64 (s19-s20)<s3))
 (∃xs10,XC pg 164 [.one (.ol 2000),Z s18,Z (a0z .i64 (s19-s20)),Z s3,.one (.d (.fn 54))] [(2000,.lst 54 7 xs9)] (.tup []) [(2000,.lst 54 7 xs10)]/\.tup []=r/\[(2000,.lst 54 7 xs10)]=O)
 ((.tup [])=r/\[(2000,.lst 54 7 xs9)]=O))
 ((.tup [])=r/\[(2000,.lst 54 7 xs9)]=O))
 (ifB (decide (s18<a0z .i64 (s19-s20)))
 (ifB (decide (a0z .i64 (s19-s20)<s3))
 (∃xs11,XC pg 164 [.one (.ol 2000),Z s18,Z (a0z .i64 (s19-s20)),Z s3,.one (.d (.fn 54))] [(2000,.lst 54 7 s0)] (.tup []) [(2000,.lst 54 7 xs11)]/\.tup []=r/\[(2000,.lst 54 7 xs11)]=O)
 ((.tup [])=r/\[(2000,.lst 54 7 s0)]=O))
 ((.tup [])=r/\[(2000,.lst 54 7 s0)]=O)))
 (ifB (decide (s18<a0z .i64 (s19-s20)))
 (ifB (decide (a0z .i64 (s19-s20)<s3))
 (∃xs12,XC pg 164 [.one (.ol 2000),Z s18,Z (a0z .i64 (s19-s20)),Z s3,.one (.d (.fn 54))] [(2000,.lst 54 7 s0)] (.tup []) [(2000,.lst 54 7 xs12)]/\.tup []=r/\[(2000,.lst 54 7 xs12)]=O)
 ((.tup [])=r/\[(2000,.lst 54 7 s0)]=O))
 ((.tup [])=r/\[(2000,.lst 54 7 s0)]=O))))):a8q r O s1 s2 s3 s18 s19 s20 s21 s22 s0:=by
 unfold a8q CLk
 refine c6q (E:=d0q) (hs:=b5q) g7q a5q ?_
 exact a4q (by kernel_rfl) h
theorem m7q {r:AV} {O:List (Nat×Ob)} {s10 s13:Int} {s0:LL} (h:ifB (decide (s13<a0z .i64 (s10-1)))
 (∃m:Nat,(a0z .i64 (s13+1))=(m:Int)/\Do (m<s0.length)/\∃n:Nat,(m*7)=(n*7)/\∃b:Bool,∃n1 n2:Int,∃d:Da,∃n3 n4:Int,∃d1:Da,(s0[n]?)=some [.bool b,.int .i64 n1,.int .i64 n2,d,.int .i64 n3,.int .i64 n4,d1]/\∃m1:Nat,s13=m1/\Do (m1<s0.length)/\∃n5:Nat,(m1*7)=(n5*7)/\∃b1:Bool,∃n6 n7:Int,∃d2:Da,∃n8 n9:Int,∃d3:Da,(s0[n5]?)=some [.bool b1,.int .i64 n6,.int .i64 n7,d2,.int .i64 n8,.int .i64 n9,d3]/\∃m2:Nat,s13=m2/\Do (m2<s0.length)/\∃m3:Nat,(m2*7)=(m3*7+0)/\∃b2:Bool,∃n10 n11:Int,∃d4:Da,∃n12 n13:Int,∃d5:Da,(s0[m3]?)=some [.bool b2,.int .i64 n10,.int .i64 n11,d4,.int .i64 n12,.int .i64 n13,d5]/\∃m4:Nat,(a0z .i64 (s13+1))=(m4:Int)/\Do (m4<a2z (a3z s0 m3 ([]++[Da.bool b,Da.int a1z n1,Da.int a1z n2,d,Da.int a1z n3,Da.int a1z n4,d1]++[])))/\∃m5:Nat,(m4*7)=(m5*7+0)/\∃b3:Bool,∃n14 n15:Int,∃d6:Da,∃n16 n17:Int,∃d7:Da,((a3z s0 m3 ([]++[Da.bool b,Da.int a1z n1,Da.int a1z n2,d,Da.int a1z n3,Da.int a1z n4,d1]++[]))[m5]?)=some [.bool b3,.int .i64 n14,.int .i64 n15,d6,.int .i64 n16,.int .i64 n17,d7]/\d7q r O s10 (a0z .i64 (s13+1)) (a3z (a3z s0 m3 ([]++[Da.bool b,Da.int a1z n1,Da.int a1z n2,d,Da.int a1z n3,Da.int a1z n4,d1]++[])) m5 ([]++[Da.bool b1,Da.int a1z n6,Da.int a1z n7,d2,Da.int a1z n8,Da.int a1z n9,d3]++[])))
 ((.tup [])=r/\[(2000,.lst 54 7 s0)]=O)):d7q r O s10 s13 s0:=by
 unfold d7q CLk
 refine c6q (E:=d0q) (hs:=b5q) g7q a5q ?_
 exact a4q (by kernel_rfl) h
theorem m0q {r:AV} {O:List (Nat×Ob)} {s14 s17:Int} {s0:LL} (h:ifB (decide (s14<s17))
 (∃m:Nat,(a0z .i64 (s17-1))=(m:Int)/\Do (m<s0.length)/\∃n:Nat,(m*7)=(n*7)/\∃b:Bool,∃n1 n2:Int,∃d:Da,∃n3 n4:Int,∃d1:Da,(s0[n]?)=some [.bool b,.int .i64 n1,.int .i64 n2,d,.int .i64 n3,.int .i64 n4,d1]/\∃m1:Nat,s17=m1/\Do (m1<s0.length)/\∃n5:Nat,(m1*7)=(n5*7)/\∃b1:Bool,∃n6 n7:Int,∃d2:Da,∃n8 n9:Int,∃d3:Da,(s0[n5]?)=some [.bool b1,.int .i64 n6,.int .i64 n7,d2,.int .i64 n8,.int .i64 n9,d3]/\∃m2:Nat,s17=m2/\Do (m2<s0.length)/\∃m3:Nat,(m2*7)=(m3*7+0)/\∃b2:Bool,∃n10 n11:Int,∃d4:Da,∃n12 n13:Int,∃d5:Da,(s0[m3]?)=some [.bool b2,.int .i64 n10,.int .i64 n11,d4,.int .i64 n12,.int .i64 n13,d5]/\∃m4:Nat,(a0z .i64 (s17-1))=(m4:Int)/\Do (m4<a2z (a3z s0 m3 ([]++[Da.bool b,Da.int a1z n1,Da.int a1z n2,d,Da.int a1z n3,Da.int a1z n4,d1]++[])))/\∃m5:Nat,(m4*7)=(m5*7+0)/\∃b3:Bool,∃n14 n15:Int,∃d6:Da,∃n16 n17:Int,∃d7:Da,((a3z s0 m3 ([]++[Da.bool b,Da.int a1z n1,Da.int a1z n2,d,Da.int a1z n3,Da.int a1z n4,d1]++[]))[m5]?)=some [.bool b3,.int .i64 n14,.int .i64 n15,d6,.int .i64 n16,.int .i64 n17,d7]/\d6q r O s14 (a0z .i64 (s17-1)) (a3z (a3z s0 m3 ([]++[Da.bool b,Da.int a1z n1,Da.int a1z n2,d,Da.int a1z n3,Da.int a1z n4,d1]++[])) m5 ([]++[Da.bool b1,Da.int a1z n6,Da.int a1z n7,d2,Da.int a1z n8,Da.int a1z n9,d3]++[])))
 ((.tup [])=r/\[(2000,.lst 54 7 s0)]=O)):d6q r O s14 s17 s0:=by
 unfold d6q CLk
 refine c6q (E:=d0q) (hs:=b5q) g7q a5q ?_
 exact a4q (by kernel_rfl) h
theorem h2q {p p1 p2:Int} {o2000:LL} {r:AV} {O:List (Nat×Ob)} (h:ifB (decide (a0z .i64 (p1-p)=1))
 (b8q r O p p1 p2 o2000)
 (ifB (decide (a0z .i64 (p2-p1)=1))
 (b7q r O p1 p p1 o2000)
 (Do ((0:Int)<=(1:Int)/\(1:Int)<=(↑(agz a6z):Int))/\ifB (decide (a0z .i64 (a0z a6z (a0z .i64 (p+p2)) / (2:Int) ^ aaz (1:Int))<p1))
 (a8q r O p p1 p2 (a0z .i64 (a0z a6z (a0z .i64 (p+p2)) / (2:Int) ^ aaz (1:Int))) (a0z .i64 (a0z .i64 (a0z a6z (a0z .i64 (p+p2)) / (2:Int) ^ aaz (1:Int))+p1)) (a0z .i64 (a0z .i64 (a0z .i64 (a0z a6z (a0z .i64 (p+p2)) / (2:Int) ^ aaz (1:Int))+p1)-p2)) (a0z .i64 (a0z a6z (a0z .i64 (p+p2)) / (2:Int) ^ aaz (1:Int))) (a0z .i64 (a0z .i64 (a0z .i64 (a0z a6z (a0z .i64 (p+p2)) / (2:Int) ^ aaz (1:Int))+p1)-1)) o2000)
 (a8q r O p p1 p2 (a0z .i64 (a0z a6z (a0z .i64 (p+p2)) / (2:Int) ^ aaz (1:Int))) (a0z .i64 (a0z .i64 (a0z a6z (a0z .i64 (p+p2)) / (2:Int) ^ aaz (1:Int))+p1)) p p1 (a0z .i64 (a0z .i64 (a0z .i64 (a0z a6z (a0z .i64 (p+p2)) / (2:Int) ^ aaz (1:Int))+p1)-1)) o2000)))):XC pg 164 [(.one (.ol 2000)),(Z p),(Z p1),(Z p2),(.one (.d (.fn 54)))] [(2000,(.lst 54 7 o2000))] r O :=
 c1q (E:=d0q) (hs:=b5q) (c:=(a2q Tryz.f164)) (n:=220) (res:=[]) (rs:=.t []) (ks:=[(2000,(false))]) (dir:=[2000]) g7q a5q rfl Tryz.func164 (by kernel_rfl) (by kernel_rfl) (by kernel_rfl) (by kernel_rfl) (a4q (by kernel_rfl) h)
def K4q:b4q:=⟨[(2,⟨[0,3,8,9,10],[],[],[],[],[],[]⟩)],[]⟩
def p3q (r:AV) (O:List (Nat×Ob)) (s s8:LL) (s9 s10:Int) (c:LL):Prop:=CLk 39 env K4q (a2q Tryz.f27) [1,0,1,0,0] (e0q env [.tmp 4] (.c .b) [] [] r O) ⟨[(0,(L s)),(3,(.one (.op 1900 0))),(8,(L s8)),(9,(Z s9)),(10,(Z s10))],[(1900,(.var [(.d (.sl c))]))]⟩
theorem N9q {r:AV} {O:List (Nat×Ob)} {s s8:LL} {s9 s10:Int} {c:LL} (h:ifB (decide (s10<s9))
 (∃m:Nat,s10=m/\∃b n n1 xs n2 n3 xs1,(s8[m]?)=some (r7 b n n1 xs n2 n3 xs1)/\∃b1,XC pg 75 [L s,.dat (r7 b n n1 xs n2 n3 xs1)] [] (B b1) []/\ifB (!b1)
 (B false=r/\[]=O)
 (ifB (decide ((0:Int)<s10))
 (∃m1:Nat,(a0z .i64 (s10-1))=(m1:Int)/\∃b2 n4 n5 xs2 n6 n7 xs3,(c[m1]?)=some (r7 b2 n4 n5 xs2 n6 n7 xs3)/\∃b3,XC pg 76 [.dat (r7 b2 n4 n5 xs2 n6 n7 xs3),.dat (r7 b n n1 xs n2 n3 xs1)] [] (B b3) []/\ifB (!b3)
 (B false=r/\[]=O)
 (p3q r O s s8 s9 (a0z .i64 (s10+1)) c))
 (p3q r O s s8 s9 (a0z .i64 (s10+1)) c)))
 ((B (decide ((c.length:Int)<=8)))=r/\[]=O)):p3q r O s s8 s9 s10 c:=by
 unfold p3q CLk
 refine c6q (E:=env) (hs:=K4q) envOk a5q ?_
 exact a4q (by kernel_rfl) h
theorem a4bq {s c:LL} {r:AV} {O:List (Nat×Ob)} (h:p3q r O s c (c.length:Int) (0:Int) c):XC pg 27 [(L s),(.dat [(.sl c)])] [] r O :=
 c1q (E:=env) (hs:=K4q) (c:=(a2q Tryz.f27)) (n:=39) (res:=[.tmp 4]) (rs:=.c .b) (ks:=[]) (dir:=[]) envOk a5q rfl Tryz.func27 (by kernel_rfl) (by kernel_rfl) (by kernel_rfl) (by kernel_rfl) (a4q (by kernel_rfl) h)
def a7tq:b4q:=⟨[],[]⟩
theorem a63q {a a1:Int} {a2:LL} {b b1:Int} {b2:LL} {r:AV} {O:List (Nat×Ob)} (h:ifB (decide (a≠b))
 (B false=r/\[]=O)
 (ifB (decide (a1≠b1))
 (B false=r/\[]=O)
 (∃b3,XC pg 213 [L a2,L b2] [] (B b3) []/\ifB (!b3)
 (B false=r/\[]=O)
 (B true=r/\[]=O)))):XC pg 206 [(.dat [(.int .i64 a),(.int .i64 a1),(.sl a2)]),(.dat [(.int .i64 b),(.int .i64 b1),(.sl b2)])] [] r O :=
 c1q (E:=env) (hs:=a7tq) (c:=(a2q Tryz.f206)) (n:=21) (res:=[.tmp 4]) (rs:=.c .b) (ks:=[]) (dir:=[]) envOk a5q rfl Tryz.func206 (by kernel_rfl) (by kernel_rfl) (by kernel_rfl) (by kernel_rfl) (a4q (by kernel_rfl) h)
def T2q:b4q:=⟨[(5,⟨[0,3,4],[],[],[],[],[],[]⟩)],[]⟩
def r9q (r:AV) (O:List (Nat×Ob)) (n:Int) (below:Bool) (out:ByteArray):Prop:=CLk 31 env T2q (a2q Tryz.f174) [1,1,1,1,0,0,0] (e0q env [.tmp 2] (.c .s) [] [] r O) ⟨[(0,(Z n)),(3,(B below)),(4,(T out))],[]⟩
theorem U6q {r:AV} {O:List (Nat×Ob)} {n:Int} {below:Bool} {out:ByteArray} (h:ifB (decide (n≠0))
 (Do ((10:Int)≠(0:Int))/\ifB (decide (abz n (10:Int)<(0:Int)))
 (∃ns:List Int,[[.int .u8 (a0z aiz (a0z .i64 ((48:Int)+a0z .i64 ((0:Int)-abz n (10:Int)))))]]=(aqz (fun n=>[Da.int aiz n]) ns)/\Do (a4z (strOfNums ns++out)<=281474976710656)/\Do ((10:Int)≠(0:Int))/\r9q r O (a0z .i64 (alz n (10:Int))) below (strOfNums ns++out))
 (∃ns1:List Int,[[.int .u8 (a0z aiz (a0z .i64 ((48:Int)+abz n (10:Int))))]]=(aqz (fun n=>[Da.int aiz n]) ns1)/\Do (a4z (strOfNums ns1++out)<=281474976710656)/\Do ((10:Int)≠(0:Int))/\r9q r O (a0z .i64 (alz n (10:Int))) below (strOfNums ns1++out)))
 (ifB below
 (Do (a4z (⟨#[45]⟩++out)<=281474976710656)/\(T (⟨#[45]⟩++out))=r/\[]=O)
 (T out=r/\[]=O))):r9q r O n below out:=by
 unfold r9q CLk
 refine c6q (E:=env) (hs:=T2q) envOk a5q ?_
 exact a4q (by kernel_rfl) h
theorem a5Qq {n:Int} {r:AV} {O:List (Nat×Ob)} (h:ifB (decide (n=0))
 ((T ⟨#[48]⟩)=r/\[]=O)
 (r9q r O n (decide (n<0)) ⟨#[]⟩)):XC pg 174 [(Z n)] [] r O :=
 c1q (E:=env) (hs:=T2q) (c:=(a2q Tryz.f174)) (n:=31) (res:=[.tmp 2]) (rs:=.c .s) (ks:=[]) (dir:=[]) envOk a5q rfl Tryz.func174 (by kernel_rfl) (by kernel_rfl) (by kernel_rfl) (by kernel_rfl) (a4q (by kernel_rfl) h)
def a8hq:b4q:=⟨[],[]⟩
theorem a1Tq {s:LL} {f:Int} {r:AV} {O:List (Nat×Ob)} (h:∃b,XC pg 89 [Z f,Z 0,Z (a0z .i64 ((s.length:Int)-1))] [] (B b) []/\B b=r/\[]=O):XC pg 171 [(L s),(Z f)] [] r O :=
 c1q (E:=env) (hs:=a8hq) (c:=(a2q Tryz.f171)) (n:=10) (res:=[.tmp 4]) (rs:=.c .b) (ks:=[]) (dir:=[]) envOk a5q rfl Tryz.func171 (by kernel_rfl) (by kernel_rfl) (by kernel_rfl) (by kernel_rfl) (a4q (by kernel_rfl) h)
def d9q:b4q:=⟨[(2,⟨[0,1,2,6,7,8],[],[],[],[],[],[]⟩),(7,⟨[0,1,2,6],[],[],[],[],[],[]⟩),(9,⟨[0,1,2,6,7,8],[],[],[],[],[],[]⟩)],[]⟩
def g5q (r:AV) (O:List (Nat×Ob)) (n blockSize:Int) (a b:Int) (data:LL):Prop:=CLk 63 d0q d9q (a2q Tryz.f192) [1,1,0,0,0] (e0q d0q [] (.t []) [(2000,(false))] [2000] r O) ⟨[(0,(.one (.ol 2000))),(1,(Z n)),(2,(.one (.d (.fn 112)))),(6,(Z blockSize)),(7,(Z a)),(8,(Z b))],[(2000,(.lst 52 3 data))]⟩
def d1q (r:AV) (O:List (Nat×Ob)) (n blockSize:Int) (data:LL):Prop:=CLk 63 d0q d9q (a2q Tryz.f192) [1,1,1,1,0,0] (e0q d0q [] (.t []) [(2000,(false))] [2000] r O) ⟨[(0,(.one (.ol 2000))),(1,(Z n)),(2,(.one (.d (.fn 112)))),(6,(Z blockSize))],[(2000,(.lst 52 3 data))]⟩
def g6q (r:AV) (O:List (Nat×Ob)) (n blockSize:Int) (a b:Int) (data:LL):Prop:=CLk 63 d0q d9q (a2q Tryz.f192) [1,1,1,1,0,0,1,0,1,0,0,0] (e0q d0q [] (.t []) [(2000,(false))] [2000] r O) ⟨[(0,(.one (.ol 2000))),(1,(Z n)),(2,(.one (.d (.fn 112)))),(6,(Z blockSize)),(7,(Z a)),(8,(Z b))],[(2000,(.lst 52 3 data))]⟩
theorem k2q {r:AV} {O:List (Nat×Ob)} {n blockSize a b:Int} {data:LL} (h:ifB (decide (b<=n))
 (∃xs,XC pg 207 [.one (.ol 2000),Z a,Z b,.one (.d (.fn 112))] [(2000,.lst 52 3 data)] (.tup []) [(2000,.lst 52 3 xs)]/\g5q r O n blockSize b (a0z .i64 (b+blockSize)) xs)
 (∃xs1,XC pg 207 [.one (.ol 2000),Z a,Z n,.one (.d (.fn 112))] [(2000,.lst 52 3 data)] (.tup []) [(2000,.lst 52 3 xs1)]/\d1q r O n blockSize xs1)):g5q r O n blockSize a b data:=by
 unfold g5q CLk
 refine c6q (E:=d0q) (hs:=d9q) g7q a5q ?_
 exact a4q (by kernel_rfl) h
theorem k3q {r:AV} {O:List (Nat×Ob)} {n blockSize:Int} {data:LL} (h:ifB (decide (blockSize<n))
 (g6q r O n blockSize (0:Int) (a0z .i64 ((2:Int)*blockSize)) data)
 ((.tup [])=r/\[(2000,.lst 52 3 data)]=O)):d1q r O n blockSize data:=by
 unfold d1q CLk
 refine c6q (E:=d0q) (hs:=d9q) g7q a5q ?_
 exact a4q (by kernel_rfl) h
theorem h9q {r:AV} {O:List (Nat×Ob)} {n blockSize a b:Int} {data:LL} (h:ifB (decide (b<=n))
 (∃xs,XC pg 208 [.one (.ol 2000),Z a,Z (a0z .i64 (a+blockSize)),Z b,.one (.d (.fn 112))] [(2000,.lst 52 3 data)] (.tup []) [(2000,.lst 52 3 xs)]/\g6q r O n blockSize b (a0z .i64 (b+a0z .i64 ((2:Int)*blockSize))) xs)
 (ifB (decide (a0z .i64 (a+blockSize)<n))
 (∃xs1,XC pg 208 [.one (.ol 2000),Z a,Z (a0z .i64 (a+blockSize)),Z n,.one (.d (.fn 112))] [(2000,.lst 52 3 data)] (.tup []) [(2000,.lst 52 3 xs1)]/\d1q r O n (a0z .i64 (blockSize*2)) xs1)
 (d1q r O n (a0z .i64 (blockSize*2)) data))):g6q r O n blockSize a b data:=by
 unfold g6q CLk
 refine c6q (E:=d0q) (hs:=d9q) g7q a5q ?_
 exact a4q (by kernel_rfl) h
theorem A2q {n:Int} {o2000:LL} {r:AV} {O:List (Nat×Ob)} (h:g5q r O n (20:Int) (0:Int) (20:Int) o2000):XC pg 192 [(.one (.ol 2000)),(Z n),(.one (.d (.fn 112)))] [(2000,(.lst 52 3 o2000))] r O :=
 c1q (E:=d0q) (hs:=d9q) (c:=(a2q Tryz.f192)) (n:=63) (res:=[]) (rs:=.t []) (ks:=[(2000,(false))]) (dir:=[2000]) g7q a5q rfl Tryz.func192 (by kernel_rfl) (by kernel_rfl) (by kernel_rfl) (by kernel_rfl) (a4q (by kernel_rfl) h)
def k5q:b4q:=⟨[(2,⟨[0,2,4,10,11],[],[],[],[],[],[]⟩)],[]⟩
def e2q (r:AV) (O:List (Nat×Ob)) (m i j:Int) (data:LL):Prop:=CLk 58 d0q k5q (a2q Tryz.f193) [1,1,0,0,0] (e0q d0q [] (.t []) [(2000,(false))] [2000] r O) ⟨[(0,(.one (.ol 2000))),(2,(Z m)),(4,(.one (.d (.fn 54)))),(10,(Z i)),(11,(Z j))],[(2000,(.lst 54 7 data))]⟩
theorem w4q {r:AV} {O:List (Nat×Ob)} {m i j:Int} {data:LL} (h:ifB (decide (i≠j))
 (ifB (decide (j<i))
 (∃xs,XC pg 209 [.one (.ol 2000),Z (a0z .i64 (m-i)),Z m,Z j,.one (.d (.fn 54))] [(2000,.lst 54 7 data)] (.tup []) [(2000,.lst 54 7 xs)]/\e2q r O m (a0z .i64 (i-j)) j xs)
 (∃xs1,XC pg 209 [.one (.ol 2000),Z (a0z .i64 (m-i)),Z (a0z .i64 (a0z .i64 (m+j)-i)),Z i,.one (.d (.fn 54))] [(2000,.lst 54 7 data)] (.tup []) [(2000,.lst 54 7 xs1)]/\e2q r O m i (a0z .i64 (j-i)) xs1))
 (∃xs2,XC pg 209 [.one (.ol 2000),Z (a0z .i64 (m-i)),Z m,Z i,.one (.d (.fn 54))] [(2000,.lst 54 7 data)] (.tup []) [(2000,.lst 54 7 xs2)]/\.tup []=r/\[(2000,.lst 54 7 xs2)]=O)):e2q r O m i j data:=by
 unfold e2q CLk
 refine c6q (E:=d0q) (hs:=k5q) g7q a5q ?_
 exact a4q (by kernel_rfl) h
theorem y3q {a m b:Int} {o2000:LL} {r:AV} {O:List (Nat×Ob)} (h:e2q r O m (a0z .i64 (m-a)) (a0z .i64 (b-m)) o2000):XC pg 193 [(.one (.ol 2000)),(Z a),(Z m),(Z b),(.one (.d (.fn 54)))] [(2000,(.lst 54 7 o2000))] r O :=
 c1q (E:=d0q) (hs:=k5q) (c:=(a2q Tryz.f193)) (n:=58) (res:=[]) (rs:=.t []) (ks:=[(2000,(false))]) (dir:=[2000]) g7q a5q rfl Tryz.func193 (by kernel_rfl) (by kernel_rfl) (by kernel_rfl) (by kernel_rfl) (a4q (by kernel_rfl) h)
def a8Gq:b4q:=⟨[],[]⟩
theorem a7dq {s:LL} {l:Bool} {l1 l2:Int} {l3:LL} {l4 l5:Int} {l6:LL} {r:AV} {O:List (Nat×Ob)} (h:∃b,XC pg 127 [L s,.dat (r3 l1 l2 l3)] [] (B b) []/\ifB b
 (∃b1,XC pg 127 [L s,.dat (r3 l4 l5 l6)] [] (B b1) []/\ifB b1
 (∃b2,XC pg 110 [.dat (r3 l1 l2 l3),.dat (r3 l4 l5 l6)] [] (B b2) []/\(B (!b2))=r/\[]=O)
 (B false=r/\[]=O))
 (B false=r/\[]=O)):XC pg 75 [(L s),(.dat [(.bool l),(.int .i64 l1),(.int .i64 l2),(.sl l3),(.int .i64 l4),(.int .i64 l5),(.sl l6)])] [] r O :=
 c1q (E:=env) (hs:=a8Gq) (c:=(a2q Tryz.f75)) (n:=23) (res:=[.tmp 4]) (rs:=.c .b) (ks:=[]) (dir:=[]) envOk a5q rfl Tryz.func75 (by kernel_rfl) (by kernel_rfl) (by kernel_rfl) (by kernel_rfl) (a4q (by kernel_rfl) h)
def a4cq:b4q:=⟨[],[]⟩
theorem a3kq {a:Bool} {a1 a2:Int} {a3:LL} {a4 a5:Int} {a6:LL} {b:Bool} {b1 b2:Int} {b3:LL} {b4 b5:Int} {b6:LL} {r:AV} {O:List (Nat×Ob)} (h:∃n,XC pg 54 [.dat (r7 a a1 a2 a3 a4 a5 a6),.dat (r7 b b1 b2 b3 b4 b5 b6)] [] (Z n) []/\(B (decide (n<0)))=r/\[]=O):XC pg 76 [(.dat [(.bool a),(.int .i64 a1),(.int .i64 a2),(.sl a3),(.int .i64 a4),(.int .i64 a5),(.sl a6)]),(.dat [(.bool b),(.int .i64 b1),(.int .i64 b2),(.sl b3),(.int .i64 b4),(.int .i64 b5),(.sl b6)])] [] r O :=
 c1q (E:=env) (hs:=a4cq) (c:=(a2q Tryz.f76)) (n:=9) (res:=[.tmp 4]) (rs:=.c .b) (ks:=[]) (dir:=[]) envOk a5q rfl Tryz.func76 (by kernel_rfl) (by kernel_rfl) (by kernel_rfl) (by kernel_rfl) (a4q (by kernel_rfl) h)
def O8q:b4q:=⟨[(4,⟨[0,1,5],[],[],[],[],[],[]⟩)],[]⟩
def w6q (r:AV) (O:List (Nat×Ob)) (a b:LL) (i:Int):Prop:=CLk 27 env O8q (a2q Tryz.f213) [1,1,0,1,0,0] (e0q env [.tmp 4] (.c .b) [] [] r O) ⟨[(0,(L a)),(1,(L b)),(5,(Z i))],[]⟩
theorem R8q {r:AV} {O:List (Nat×Ob)} {a b:LL} {i:Int} (h:ifB (decide (i<(a.length:Int)))
 (∃m:Nat,i=m/\∃n n1 xs,(a[m]?)=some (r3 n n1 xs)/\∃m1:Nat,i=m1/\∃n2 n3 xs1,(b[m1]?)=some (r3 n2 n3 xs1)/\∃b2,XC pg 206 [.dat (r3 n n1 xs),.dat (r3 n2 n3 xs1)] [] (B b2) []/\ifB (!b2)
 (B false=r/\[]=O)
 (w6q r O a b (a0z .i64 (i+1))))
 (B true=r/\[]=O)):w6q r O a b i:=by
 unfold w6q CLk
 refine c6q (E:=env) (hs:=O8q) envOk a5q ?_
 exact a4q (by kernel_rfl) h
theorem a4Eq {a b:LL} {r:AV} {O:List (Nat×Ob)} (h:ifB (decide ((a.length:Int)≠(b.length:Int)))
 (B false=r/\[]=O)
 (w6q r O a b (0:Int))):XC pg 213 [(L a),(L b)] [] r O :=
 c1q (E:=env) (hs:=O8q) (c:=(a2q Tryz.f213)) (n:=27) (res:=[.tmp 4]) (rs:=.c .b) (ks:=[]) (dir:=[]) envOk a5q rfl Tryz.func213 (by kernel_rfl) (by kernel_rfl) (by kernel_rfl) (by kernel_rfl) (a4q (by kernel_rfl) h)
end AM
end Go.Proofs.YtmgfoalfimpkjaaGreat
set_option maxRecDepth 100000
namespace Go.Proofs.YtmgfoalfimpkjaaGreat
namespace AM
open Go
open Go.Proofs.Tryz renaming prog->pg
attribute [local irreducible] vC
def f4q:b4q:=⟨[(1,⟨[0,1,2,3,8],[],[],[],[],[],[]⟩),(4,⟨[0,1,2,3,8,9],[],[],[],[],[],[]⟩)],[]⟩
def c9q (r:AV) (O:List (Nat×Ob)) (a b i:Int) (data:LL):Prop:=CLk 53 d0q f4q (a2q Tryz.f207) [1,0,0] (e0q d0q [] (.t []) [(2000,(false))] [2000] r O) ⟨[(0,(.one (.ol 2000))),(1,(Z a)),(2,(Z b)),(3,(.one (.d (.fn 112)))),(8,(Z i))],[(2000,(.lst 52 3 data))]⟩
def e8q (r:AV) (O:List (Nat×Ob)) (a b:Int) (i j:Int) (data:LL):Prop:=CLk 53 d0q f4q (a2q Tryz.f207) [1,0,0,1,0,0,1,0,0] (e0q d0q [] (.t []) [(2000,(false))] [2000] r O) ⟨[(0,(.one (.ol 2000))),(1,(Z a)),(2,(Z b)),(3,(.one (.d (.fn 112)))),(8,(Z i)),(9,(Z j))],[(2000,(.lst 52 3 data))]⟩
theorem i8q {r:AV} {O:List (Nat×Ob)} {a b i:Int} {data:LL} (h:ifB (decide (i<b))
 (e8q r O a b i i data)
 ((.tup [])=r/\[(2000,.lst 52 3 data)]=O)):c9q r O a b i data:=by
 unfold c9q CLk
 refine c6q (E:=d0q) (hs:=f4q) g7q a5q ?_
 exact a4q (by kernel_rfl) h
theorem i7q {r:AV} {O:List (Nat×Ob)} {a b i j:Int} {data:LL} (h:ifB (decide (a<j))
 (∃m:Nat,j=m/\Do (m<data.length)/\∃n:Nat,(m*3)=(n*3)/\∃n1 n2:Int,∃d:Da,(data[n]?)=some [.int .i64 n1,.int .i64 n2,d]/\∃m1:Nat,(a0z .i64 (j-1))=(m1:Int)/\Do (m1<data.length)/\∃n3:Nat,(m1*3)=(n3*3)/\∃n4 n5:Int,∃d1:Da,(data[n3]?)=some [.int .i64 n4,.int .i64 n5,d1]/\∃n6,XC pg 112 [.dat [.int .i64 n1,.int .i64 n2,d],.dat [.int .i64 n4,.int .i64 n5,d1]] [] (Z n6) []/\ifB (decide (n6<0))
 (∃m2:Nat,(a0z .i64 (j-1))=(m2:Int)/\Do (m2<data.length)/\∃n7:Nat,(m2*3)=(n7*3)/\∃n8 n9:Int,∃d2:Da,(data[n7]?)=some [.int .i64 n8,.int .i64 n9,d2]/\∃m3:Nat,j=m3/\Do (m3<data.length)/\∃n10:Nat,(m3*3)=(n10*3)/\∃n11 n12:Int,∃d3:Da,(data[n10]?)=some [.int .i64 n11,.int .i64 n12,d3]/\∃m4:Nat,j=m4/\Do (m4<data.length)/\∃m5:Nat,(m4*3)=(m5*3+0)/\∃n13 n14:Int,∃d4:Da,(data[m5]?)=some [.int .i64 n13,.int .i64 n14,d4]/\∃m6:Nat,(a0z .i64 (j-1))=(m6:Int)/\Do (m6<a2z (a3z data m5 ([]++[Da.int a1z n8,Da.int a1z n9,d2]++[])))/\∃m7:Nat,(m6*3)=(m7*3+0)/\∃n15 n16:Int,∃d5:Da,((a3z data m5 ([]++[Da.int a1z n8,Da.int a1z n9,d2]++[]))[m7]?)=some [.int .i64 n15,.int .i64 n16,d5]/\e8q r O a b i (a0z .i64 (j-1)) (a3z (a3z data m5 ([]++[Da.int a1z n8,Da.int a1z n9,d2]++[])) m7 ([]++[Da.int a1z n11,Da.int a1z n12,d3]++[])))
 (c9q r O a b (a0z .i64 (i+1)) data))
 (c9q r O a b (a0z .i64 (i+1)) data)):e8q r O a b i j data:=by
 unfold e8q CLk
 refine c6q (E:=d0q) (hs:=f4q) g7q a5q ?_
 exact a4q (by kernel_rfl) h
theorem n0q {a b:Int} {o2000:LL} {r:AV} {O:List (Nat×Ob)} (h:c9q r O a b (a0z .i64 (a+1)) o2000):XC pg 207 [(.one (.ol 2000)),(Z a),(Z b),(.one (.d (.fn 112)))] [(2000,(.lst 52 3 o2000))] r O :=
 c1q (E:=d0q) (hs:=f4q) (c:=(a2q Tryz.f207)) (n:=53) (res:=[]) (rs:=.t []) (ks:=[(2000,(false))]) (dir:=[2000]) g7q a5q rfl Tryz.func207 (by kernel_rfl) (by kernel_rfl) (by kernel_rfl) (by kernel_rfl) (a4q (by kernel_rfl) h)
def b9q:b4q:=⟨[(3,⟨[0,1,4,10,11],[],[],[],[],[],[]⟩),(9,⟨[0,10,13],[],[],[],[],[],[]⟩),(15,⟨[0,2,4,14,15],[],[],[],[],[],[]⟩),(21,⟨[0,14,17],[],[],[],[],[],[]⟩),(33,⟨[0,1,2,3,4,18,19,20,21,22],[],[],[],[],[],[]⟩)],[]⟩
def c3q (r:AV) (O:List (Nat×Ob)) (s1 s10 s11:Int) (s0:LL):Prop:=CLk 220 d0q b9q (a2q Tryz.f208) [0,1,0,1,1,0,0,0] (e0q d0q [] (.t []) [(2000,(false))] [2000] r O) ⟨[(0,(.one (.ol 2000))),(1,(Z s1)),(4,(.one (.d (.fn 112)))),(10,(Z s10)),(11,(Z s11))],[(2000,(.lst 52 3 s0))]⟩
def c2q (r:AV) (O:List (Nat×Ob)) (s2 s14 s15:Int) (s0:LL):Prop:=CLk 220 d0q b9q (a2q Tryz.f208) [1,0,1,0,1,1,0,0,0] (e0q d0q [] (.t []) [(2000,(false))] [2000] r O) ⟨[(0,(.one (.ol 2000))),(2,(Z s2)),(4,(.one (.d (.fn 112)))),(14,(Z s14)),(15,(Z s15))],[(2000,(.lst 52 3 s0))]⟩
def a9q (r:AV) (O:List (Nat×Ob)) (s1 s2:Int) (s3 s18:Int) (s19 s20:Int) (s21 s22:Int) (s0:LL):Prop:=CLk 220 d0q b9q (a2q Tryz.f208) [1,1,1,1,1,1,1,0,0,0] (e0q d0q [] (.t []) [(2000,(false))] [2000] r O) ⟨[(0,(.one (.ol 2000))),(1,(Z s1)),(2,(Z s2)),(3,(Z s3)),(4,(.one (.d (.fn 112)))),(18,(Z s18)),(19,(Z s19)),(20,(Z s20)),(21,(Z s21)),(22,(Z s22))],[(2000,(.lst 52 3 s0))]⟩
def e5q (r:AV) (O:List (Nat×Ob)) (s10 s13:Int) (s0:LL):Prop:=CLk 220 d0q b9q (a2q Tryz.f208) [0,1,0,1,1,1,0,1,0,0] (e0q d0q [] (.t []) [(2000,(false))] [2000] r O) ⟨[(0,(.one (.ol 2000))),(10,(Z s10)),(13,(Z s13))],[(2000,(.lst 52 3 s0))]⟩
def e1q (r:AV) (O:List (Nat×Ob)) (s14 s17:Int) (s0:LL):Prop:=CLk 220 d0q b9q (a2q Tryz.f208) [1,0,1,0,1,1,1,0,1,0,0] (e0q d0q [] (.t []) [(2000,(false))] [2000] r O) ⟨[(0,(.one (.ol 2000))),(14,(Z s14)),(17,(Z s17))],[(2000,(.lst 52 3 s0))]⟩
theorem o1q {r:AV} {O:List (Nat×Ob)} {s1 s10 s11:Int} {s0:LL} (h:ifB (decide (s10<s11))
 (Do ((0:Int)<=(1:Int)/\(1:Int)<=(↑(agz a6z):Int))/\∃m:Nat,(a0z .i64 (a0z a6z (a0z .i64 (s10+s11)) / (2:Int) ^ aaz (1:Int)))=(m:Int)/\Do (m<s0.length)/\∃n:Nat,(m*3)=(n*3)/\∃n1 n2:Int,∃d:Da,(s0[n]?)=some [.int .i64 n1,.int .i64 n2,d]/\∃m1:Nat,s1=m1/\Do (m1<s0.length)/\∃n3:Nat,(m1*3)=(n3*3)/\∃n4 n5:Int,∃d1:Da,(s0[n3]?)=some [.int .i64 n4,.int .i64 n5,d1]/\∃n6,XC pg 112 [.dat [.int .i64 n1,.int .i64 n2,d],.dat [.int .i64 n4,.int .i64 n5,d1]] [] (Z n6) []/\ifB (decide (n6<0))
 (c3q r O s1 (a0z .i64 (a0z .i64 (a0z a6z (a0z .i64 (s10+s11)) / (2:Int) ^ aaz (1:Int))+1)) s11 s0)
 (c3q r O s1 s10 (a0z .i64 (a0z a6z (a0z .i64 (s10+s11)) / (2:Int) ^ aaz (1:Int))) s0))
 (e5q r O s10 s1 s0)):c3q r O s1 s10 s11 s0:=by
 unfold c3q CLk
 refine c6q (E:=d0q) (hs:=b9q) g7q a5q ?_
 exact a4q (by kernel_rfl) h
theorem n4q {r:AV} {O:List (Nat×Ob)} {s2 s14 s15:Int} {s0:LL} (h:ifB (decide (s14<s15))
 (Do ((0:Int)<=(1:Int)/\(1:Int)<=(↑(agz a6z):Int))/\∃m:Nat,s2=m/\Do (m<s0.length)/\∃n:Nat,(m*3)=(n*3)/\∃n1 n2:Int,∃d:Da,(s0[n]?)=some [.int .i64 n1,.int .i64 n2,d]/\∃m1:Nat,(a0z .i64 (a0z a6z (a0z .i64 (s14+s15)) / (2:Int) ^ aaz (1:Int)))=(m1:Int)/\Do (m1<s0.length)/\∃n3:Nat,(m1*3)=(n3*3)/\∃n4 n5:Int,∃d1:Da,(s0[n3]?)=some [.int .i64 n4,.int .i64 n5,d1]/\∃n6,XC pg 112 [.dat [.int .i64 n1,.int .i64 n2,d],.dat [.int .i64 n4,.int .i64 n5,d1]] [] (Z n6) []/\ifB (!decide (n6<0))
 (c2q r O s2 (a0z .i64 (a0z .i64 (a0z a6z (a0z .i64 (s14+s15)) / (2:Int) ^ aaz (1:Int))+1)) s15 s0)
 (c2q r O s2 s14 (a0z .i64 (a0z a6z (a0z .i64 (s14+s15)) / (2:Int) ^ aaz (1:Int))) s0))
 (e1q r O s14 s2 s0)):c2q r O s2 s14 s15 s0:=by
 unfold c2q CLk
 refine c6q (E:=d0q) (hs:=b9q) g7q a5q ?_
 exact a4q (by kernel_rfl) h
theorem n6q {r:AV} {O:List (Nat×Ob)} {s1 s2 s3 s18 s19 s20 s21 s22:Int} {s0:LL} (h:ifB (decide (s20<s21))
 (Do ((0:Int)<=(1:Int)/\(1:Int)<=(↑(agz a6z):Int))/\∃m:Nat,(a0z .i64 (s22-a0z .i64 (a0z a6z (a0z .i64 (s20+s21)) / (2:Int) ^ aaz (1:Int))))=(m:Int)/\Do (m<s0.length)/\∃n:Nat,(m*3)=(n*3)/\∃n1 n2:Int,∃d:Da,(s0[n]?)=some [.int .i64 n1,.int .i64 n2,d]/\∃m1:Nat,(a0z .i64 (a0z a6z (a0z .i64 (s20+s21)) / (2:Int) ^ aaz (1:Int)))=(m1:Int)/\Do (m1<s0.length)/\∃n3:Nat,(m1*3)=(n3*3)/\∃n4 n5:Int,∃d1:Da,(s0[n3]?)=some [.int .i64 n4,.int .i64 n5,d1]/\∃n6,XC pg 112 [.dat [.int .i64 n1,.int .i64 n2,d],.dat [.int .i64 n4,.int .i64 n5,d1]] [] (Z n6) []/\ifB (!decide (n6<0))
 (a9q r O s1 s2 s3 s18 s19 (a0z .i64 (a0z .i64 (a0z a6z (a0z .i64 (s20+s21)) / (2:Int) ^ aaz (1:Int))+1)) s21 s22 s0)
 (a9q r O s1 s2 s3 s18 s19 s20 (a0z .i64 (a0z a6z (a0z .i64 (s20+s21)) / (2:Int) ^ aaz (1:Int))) s22 s0))
 (ifB (decide (s20<s2))
 (ifB (decide (s2<a0z .i64 (s19-s20)))
 (∃xs,XC pg 214 [.one (.ol 2000),Z s20,Z s2,Z (a0z .i64 (s19-s20)),.one (.d (.fn 112))] [(2000,.lst 52 3 s0)] (.tup []) [(2000,.lst 52 3 xs)]/\ifB (decide (s1<s20))
 (ifB (decide (s20<s18))
 (∃xs1,XC pg 208 [.one (.ol 2000),Z s1,Z s20,Z s18,.one (.d (.fn 112))] [(2000,.lst 52 3 xs)] (.tup []) [(2000,.lst 52 3 xs1)]/\ifB (decide (s18<a0z .i64 (s19-s20)))
 (ifB (decide (a0z .i64 (s19-s20)<s3))
 (∃xs2,XC pg 208 [.one (.ol 2000),Z s18,Z (a0z .i64 (s19-s20)),Z s3,.one (.d (.fn 112))] [(2000,.lst 52 3 xs1)] (.tup []) [(2000,.lst 52 3 xs2)]/\.tup []=r/\[(2000,.lst 52 3 xs2)]=O)
 ((.tup [])=r/\[(2000,.lst 52 3 xs1)]=O))
 ((.tup [])=r/\[(2000,.lst 52 3 xs1)]=O))
 (ifB (decide (s18<a0z .i64 (s19-s20)))
 (ifB (decide (a0z .i64 (s19-s20)<s3))
 (∃xs3,XC pg 208 [.one (.ol 2000),Z s18,Z (a0z .i64 (s19-s20)),Z s3,.one (.d (.fn 112))] [(2000,.lst 52 3 xs)] (.tup []) [(2000,.lst 52 3 xs3)]/\.tup []=r/\[(2000,.lst 52 3 xs3)]=O)
 ((.tup [])=r/\[(2000,.lst 52 3 xs)]=O))
 ((.tup [])=r/\[(2000,.lst 52 3 xs)]=O)))
 (ifB (decide (s18<a0z .i64 (s19-s20)))
 (ifB (decide (a0z .i64 (s19-s20)<s3))
 (∃xs4,XC pg 208 [.one (.ol 2000),Z s18,Z (a0z .i64 (s19-s20)),Z s3,.one (.d (.fn 112))] [(2000,.lst 52 3 xs)] (.tup []) [(2000,.lst 52 3 xs4)]/\.tup []=r/\[(2000,.lst 52 3 xs4)]=O)
 ((.tup [])=r/\[(2000,.lst 52 3 xs)]=O))
 ((.tup [])=r/\[(2000,.lst 52 3 xs)]=O)))
 (ifB (decide (s1<s20))
 (ifB (decide (s20<s18))
 (∃xs5,XC pg 208 [.one (.ol 2000),Z s1,Z s20,Z s18,.one (.d (.fn 112))] [(2000,.lst 52 3 s0)] (.tup []) [(2000,.lst 52 3 xs5)]/\ifB (decide (s18<a0z .i64 (s19-s20)))
 (ifB (decide (a0z .i64 (s19-s20)<s3))
 (∃xs6,XC pg 208 [.one (.ol 2000),Z s18,Z (a0z .i64 (s19-s20)),Z s3,.one (.d (.fn 112))] [(2000,.lst 52 3 xs5)] (.tup []) [(2000,.lst 52 3 xs6)]/\.tup []=r/\[(2000,.lst 52 3 xs6)]=O)
 ((.tup [])=r/\[(2000,.lst 52 3 xs5)]=O))
 ((.tup [])=r/\[(2000,.lst 52 3 xs5)]=O))
 (ifB (decide (s18<a0z .i64 (s19-s20)))
 (ifB (decide (a0z .i64 (s19-s20)<s3))
 (∃xs7,XC pg 208 [.one (.ol 2000),Z s18,Z (a0z .i64 (s19-s20)),Z s3,.one (.d (.fn 112))] [(2000,.lst 52 3 s0)] (.tup []) [(2000,.lst 52 3 xs7)]/\.tup []=r/\[(2000,.lst 52 3 xs7)]=O)
 ((.tup [])=r/\[(2000,.lst 52 3 s0)]=O))
 ((.tup [])=r/\[(2000,.lst 52 3 s0)]=O)))
 (ifB (decide (s18<a0z .i64 (s19-s20)))
 (ifB (decide (a0z .i64 (s19-s20)<s3))
 (∃xs8,XC pg 208 [.one (.ol 2000),Z s18,Z (a0z .i64 (s19-s20)),Z s3,.one (.d (.fn 112))] [(2000,.lst 52 3 s0)] (.tup []) [(2000,.lst 52 3 xs8)]/\.tup []=r/\[(2000,.lst 52 3 xs8)]=O)
 ((.tup [])=r/\[(2000,.lst 52 3 s0)]=O))
 ((.tup [])=r/\[(2000,.lst 52 3 s0)]=O))))
 (ifB (decide (s1<s20))
 (ifB (decide (s20<s18))
 (∃xs9,XC pg 208 [.one (.ol 2000),Z s1,Z s20,Z s18,.one (.d (.fn 112))] [(2000,.lst 52 3 s0)] (.tup []) [(2000,.lst 52 3 xs9)]/\ifB (decide (s18<a0z .i64 (s19-s20)))
 (ifB (decide (a0z .i64 (s19-s20)<s3))
 (∃xs10,XC pg 208 [.one (.ol 2000),Z s18,Z (a0z .i64 (s19-s20)),Z s3,.one (.d (.fn 112))] [(2000,.lst 52 3 xs9)] (.tup []) [(2000,.lst 52 3 xs10)]/\.tup []=r/\[(2000,.lst 52 3 xs10)]=O)
 ((.tup [])=r/\[(2000,.lst 52 3 xs9)]=O))
 ((.tup [])=r/\[(2000,.lst 52 3 xs9)]=O))
 (ifB (decide (s18<a0z .i64 (s19-s20)))
 (ifB (decide (a0z .i64 (s19-s20)<s3))
 (∃xs11,XC pg 208 [.one (.ol 2000),Z s18,Z (a0z .i64 (s19-s20)),Z s3,.one (.d (.fn 112))] [(2000,.lst 52 3 s0)] (.tup []) [(2000,.lst 52 3 xs11)]/\.tup []=r/\[(2000,.lst 52 3 xs11)]=O)
 ((.tup [])=r/\[(2000,.lst 52 3 s0)]=O))
 ((.tup [])=r/\[(2000,.lst 52 3 s0)]=O)))
 (ifB (decide (s18<a0z .i64 (s19-s20)))
 (ifB (decide (a0z .i64 (s19-s20)<s3))
 (∃xs12,XC pg 208 [.one (.ol 2000),Z s18,Z (a0z .i64 (s19-s20)),Z s3,.one (.d (.fn 112))] [(2000,.lst 52 3 s0)] (.tup []) [(2000,.lst 52 3 xs12)]/\.tup []=r/\[(2000,.lst 52 3 xs12)]=O)
 ((.tup [])=r/\[(2000,.lst 52 3 s0)]=O))
 ((.tup [])=r/\[(2000,.lst 52 3 s0)]=O))))):a9q r O s1 s2 s3 s18 s19 s20 s21 s22 s0:=by
 unfold a9q CLk
 refine c6q (E:=d0q) (hs:=b9q) g7q a5q ?_
 exact a4q (by kernel_rfl) h
theorem o2q {r:AV} {O:List (Nat×Ob)} {s10 s13:Int} {s0:LL} (h:ifB (decide (s13<a0z .i64 (s10-1)))
 (∃m:Nat,(a0z .i64 (s13+1))=(m:Int)/\Do (m<s0.length)/\∃n:Nat,(m*3)=(n*3)/\∃n1 n2:Int,∃d:Da,(s0[n]?)=some [.int .i64 n1,.int .i64 n2,d]/\∃m1:Nat,s13=m1/\Do (m1<s0.length)/\∃n3:Nat,(m1*3)=(n3*3)/\∃n4 n5:Int,∃d1:Da,(s0[n3]?)=some [.int .i64 n4,.int .i64 n5,d1]/\∃m2:Nat,s13=m2/\Do (m2<s0.length)/\∃m3:Nat,(m2*3)=(m3*3+0)/\∃n6 n7:Int,∃d2:Da,(s0[m3]?)=some [.int .i64 n6,.int .i64 n7,d2]/\∃m4:Nat,(a0z .i64 (s13+1))=(m4:Int)/\Do (m4<a2z (a3z s0 m3 ([]++[Da.int a1z n1,Da.int a1z n2,d]++[])))/\∃m5:Nat,(m4*3)=(m5*3+0)/\∃n8 n9:Int,∃d3:Da,((a3z s0 m3 ([]++[Da.int a1z n1,Da.int a1z n2,d]++[]))[m5]?)=some [.int .i64 n8,.int .i64 n9,d3]/\e5q r O s10 (a0z .i64 (s13+1)) (a3z (a3z s0 m3 ([]++[Da.int a1z n1,Da.int a1z n2,d]++[])) m5 ([]++[Da.int a1z n4,Da.int a1z n5,d1]++[])))
 ((.tup [])=r/\[(2000,.lst 52 3 s0)]=O)):e5q r O s10 s13 s0:=by
 unfold e5q CLk
 refine c6q (E:=d0q) (hs:=b9q) g7q a5q ?_
 exact a4q (by kernel_rfl) h
theorem n3q {r:AV} {O:List (Nat×Ob)} {s14 s17:Int} {s0:LL} (h:ifB (decide (s14<s17))
 (∃m:Nat,(a0z .i64 (s17-1))=(m:Int)/\Do (m<s0.length)/\∃n:Nat,(m*3)=(n*3)/\∃n1 n2:Int,∃d:Da,(s0[n]?)=some [.int .i64 n1,.int .i64 n2,d]/\∃m1:Nat,s17=m1/\Do (m1<s0.length)/\∃n3:Nat,(m1*3)=(n3*3)/\∃n4 n5:Int,∃d1:Da,(s0[n3]?)=some [.int .i64 n4,.int .i64 n5,d1]/\∃m2:Nat,s17=m2/\Do (m2<s0.length)/\∃m3:Nat,(m2*3)=(m3*3+0)/\∃n6 n7:Int,∃d2:Da,(s0[m3]?)=some [.int .i64 n6,.int .i64 n7,d2]/\∃m4:Nat,(a0z .i64 (s17-1))=(m4:Int)/\Do (m4<a2z (a3z s0 m3 ([]++[Da.int a1z n1,Da.int a1z n2,d]++[])))/\∃m5:Nat,(m4*3)=(m5*3+0)/\∃n8 n9:Int,∃d3:Da,((a3z s0 m3 ([]++[Da.int a1z n1,Da.int a1z n2,d]++[]))[m5]?)=some [.int .i64 n8,.int .i64 n9,d3]/\e1q r O s14 (a0z .i64 (s17-1)) (a3z (a3z s0 m3 ([]++[Da.int a1z n1,Da.int a1z n2,d]++[])) m5 ([]++[Da.int a1z n4,Da.int a1z n5,d1]++[])))
 ((.tup [])=r/\[(2000,.lst 52 3 s0)]=O)):e1q r O s14 s17 s0:=by
 unfold e1q CLk
 refine c6q (E:=d0q) (hs:=b9q) g7q a5q ?_
 exact a4q (by kernel_rfl) h
theorem i3q {p p1 p2:Int} {o2000:LL} {r:AV} {O:List (Nat×Ob)} (h:ifB (decide (a0z .i64 (p1-p)=1))
 (c3q r O p p1 p2 o2000)
 (ifB (decide (a0z .i64 (p2-p1)=1))
 (c2q r O p1 p p1 o2000)
 (Do ((0:Int)<=(1:Int)/\(1:Int)<=(↑(agz a6z):Int))/\ifB (decide (a0z .i64 (a0z a6z (a0z .i64 (p+p2)) / (2:Int) ^ aaz (1:Int))<p1))
 (a9q r O p p1 p2 (a0z .i64 (a0z a6z (a0z .i64 (p+p2)) / (2:Int) ^ aaz (1:Int))) (a0z .i64 (a0z .i64 (a0z a6z (a0z .i64 (p+p2)) / (2:Int) ^ aaz (1:Int))+p1)) (a0z .i64 (a0z .i64 (a0z .i64 (a0z a6z (a0z .i64 (p+p2)) / (2:Int) ^ aaz (1:Int))+p1)-p2)) (a0z .i64 (a0z a6z (a0z .i64 (p+p2)) / (2:Int) ^ aaz (1:Int))) (a0z .i64 (a0z .i64 (a0z .i64 (a0z a6z (a0z .i64 (p+p2)) / (2:Int) ^ aaz (1:Int))+p1)-1)) o2000)
 (a9q r O p p1 p2 (a0z .i64 (a0z a6z (a0z .i64 (p+p2)) / (2:Int) ^ aaz (1:Int))) (a0z .i64 (a0z .i64 (a0z a6z (a0z .i64 (p+p2)) / (2:Int) ^ aaz (1:Int))+p1)) p p1 (a0z .i64 (a0z .i64 (a0z .i64 (a0z a6z (a0z .i64 (p+p2)) / (2:Int) ^ aaz (1:Int))+p1)-1)) o2000)))):XC pg 208 [(.one (.ol 2000)),(Z p),(Z p1),(Z p2),(.one (.d (.fn 112)))] [(2000,(.lst 52 3 o2000))] r O :=
 c1q (E:=d0q) (hs:=b9q) (c:=(a2q Tryz.f208)) (n:=220) (res:=[]) (rs:=.t []) (ks:=[(2000,(false))]) (dir:=[2000]) g7q a5q rfl Tryz.func208 (by kernel_rfl) (by kernel_rfl) (by kernel_rfl) (by kernel_rfl) (a4q (by kernel_rfl) h)
def j7q:b4q:=⟨[(1,⟨[0,1,2,3,10],[],[],[],[],[],[]⟩)],[]⟩
def f3q (r:AV) (O:List (Nat×Ob)) (a b:Int) (n i:Int) (data:LL):Prop:=CLk 38 d0q j7q (a2q Tryz.f209) [1,0,0] (e0q d0q [] (.t []) [(2000,(false))] [2000] r O) ⟨[(0,(.one (.ol 2000))),(1,(Z a)),(2,(Z b)),(3,(Z n)),(10,(Z i))],[(2000,(.lst 54 7 data))]⟩
theorem l8q {r:AV} {O:List (Nat×Ob)} {a b n i:Int} {data:LL} (h:ifB (decide (i<n))
 (∃m:Nat,(a0z .i64 (b+i))=(m:Int)/\Do (m<data.length)/\∃n2:Nat,(m*7)=(n2*7)/\∃b2:Bool,∃n3 n4:Int,∃d:Da,∃n5 n6:Int,∃d1:Da,(data[n2]?)=some [.bool b2,.int .i64 n3,.int .i64 n4,d,.int .i64 n5,.int .i64 n6,d1]/\∃m1:Nat,(a0z .i64 (a+i))=(m1:Int)/\Do (m1<data.length)/\∃n7:Nat,(m1*7)=(n7*7)/\∃b3:Bool,∃n8 n9:Int,∃d2:Da,∃n10 n11:Int,∃d3:Da,(data[n7]?)=some [.bool b3,.int .i64 n8,.int .i64 n9,d2,.int .i64 n10,.int .i64 n11,d3]/\∃m2:Nat,(a0z .i64 (a+i))=(m2:Int)/\Do (m2<data.length)/\∃m3:Nat,(m2*7)=(m3*7+0)/\∃b4:Bool,∃n12 n13:Int,∃d4:Da,∃n14 n15:Int,∃d5:Da,(data[m3]?)=some [.bool b4,.int .i64 n12,.int .i64 n13,d4,.int .i64 n14,.int .i64 n15,d5]/\∃m4:Nat,(a0z .i64 (b+i))=(m4:Int)/\Do (m4<a2z (a3z data m3 ([]++[Da.bool b2,Da.int a1z n3,Da.int a1z n4,d,Da.int a1z n5,Da.int a1z n6,d1]++[])))/\∃m5:Nat,(m4*7)=(m5*7+0)/\∃b5:Bool,∃n16 n17:Int,∃d6:Da,∃n18 n19:Int,∃d7:Da,((a3z data m3 ([]++[Da.bool b2,Da.int a1z n3,Da.int a1z n4,d,Da.int a1z n5,Da.int a1z n6,d1]++[]))[m5]?)=some [.bool b5,.int .i64 n16,.int .i64 n17,d6,.int .i64 n18,.int .i64 n19,d7]/\f3q r O a b n (a0z .i64 (i+1)) (a3z (a3z data m3 ([]++[Da.bool b2,Da.int a1z n3,Da.int a1z n4,d,Da.int a1z n5,Da.int a1z n6,d1]++[])) m5 ([]++[Da.bool b3,Da.int a1z n8,Da.int a1z n9,d2,Da.int a1z n10,Da.int a1z n11,d3]++[])))
 ((.tup [])=r/\[(2000,.lst 54 7 data)]=O)):f3q r O a b n i data:=by
 unfold f3q CLk
 refine c6q (E:=d0q) (hs:=j7q) g7q a5q ?_
 exact a4q (by kernel_rfl) h
theorem w3q {a b n:Int} {o2000:LL} {r:AV} {O:List (Nat×Ob)} (h:f3q r O a b n (0:Int) o2000):XC pg 209 [(.one (.ol 2000)),(Z a),(Z b),(Z n),(.one (.d (.fn 54)))] [(2000,(.lst 54 7 o2000))] r O :=
 c1q (E:=d0q) (hs:=j7q) (c:=(a2q Tryz.f209)) (n:=38) (res:=[]) (rs:=.t []) (ks:=[(2000,(false))]) (dir:=[2000]) g7q a5q rfl Tryz.func209 (by kernel_rfl) (by kernel_rfl) (by kernel_rfl) (by kernel_rfl) (a4q (by kernel_rfl) h)
def a7vq:b4q:=⟨[],[]⟩
theorem a5Uq {s:LL} {t t1:Int} {t2:LL} {r:AV} {O:List (Nat×Ob)} (h:∃b,XC pg 39 [L s] [] (B b) []/\ifB b
 (∃n,XC pg 175 [.dat (r3 t t1 t2)] [] (Z n) []/\ifB (decide (n<=60))
 (∃b1,XC pg 176 [L s,.dat (r3 t t1 t2)] [] (B b1) []/\B b1=r/\[]=O)
 (B false=r/\[]=O))
 (B false=r/\[]=O)):XC pg 127 [(L s),(.dat [(.int .i64 t),(.int .i64 t1),(.sl t2)])] [] r O :=
 c1q (E:=env) (hs:=a7vq) (c:=(a2q Tryz.f127)) (n:=17) (res:=[.tmp 4]) (rs:=.c .b) (ks:=[]) (dir:=[]) envOk a5q rfl Tryz.func127 (by kernel_rfl) (by kernel_rfl) (by kernel_rfl) (by kernel_rfl) (a4q (by kernel_rfl) h)
def l1q:b4q:=⟨[(2,⟨[0,2,4,10,11],[],[],[],[],[],[]⟩)],[]⟩
def e9q (r:AV) (O:List (Nat×Ob)) (m i j:Int) (data:LL):Prop:=CLk 58 d0q l1q (a2q Tryz.f214) [1,1,0,0,0] (e0q d0q [] (.t []) [(2000,(false))] [2000] r O) ⟨[(0,(.one (.ol 2000))),(2,(Z m)),(4,(.one (.d (.fn 112)))),(10,(Z i)),(11,(Z j))],[(2000,(.lst 52 3 data))]⟩
theorem x7q {r:AV} {O:List (Nat×Ob)} {m i j:Int} {data:LL} (h:ifB (decide (i≠j))
 (ifB (decide (j<i))
 (∃xs,XC pg 216 [.one (.ol 2000),Z (a0z .i64 (m-i)),Z m,Z j,.one (.d (.fn 112))] [(2000,.lst 52 3 data)] (.tup []) [(2000,.lst 52 3 xs)]/\e9q r O m (a0z .i64 (i-j)) j xs)
 (∃xs1,XC pg 216 [.one (.ol 2000),Z (a0z .i64 (m-i)),Z (a0z .i64 (a0z .i64 (m+j)-i)),Z i,.one (.d (.fn 112))] [(2000,.lst 52 3 data)] (.tup []) [(2000,.lst 52 3 xs1)]/\e9q r O m i (a0z .i64 (j-i)) xs1))
 (∃xs2,XC pg 216 [.one (.ol 2000),Z (a0z .i64 (m-i)),Z m,Z i,.one (.d (.fn 112))] [(2000,.lst 52 3 data)] (.tup []) [(2000,.lst 52 3 xs2)]/\.tup []=r/\[(2000,.lst 52 3 xs2)]=O)):e9q r O m i j data:=by
 unfold e9q CLk
 refine c6q (E:=d0q) (hs:=l1q) g7q a5q ?_
 exact a4q (by kernel_rfl) h
theorem A5q {a m b:Int} {o2000:LL} {r:AV} {O:List (Nat×Ob)} (h:e9q r O m (a0z .i64 (m-a)) (a0z .i64 (b-m)) o2000):XC pg 214 [(.one (.ol 2000)),(Z a),(Z m),(Z b),(.one (.d (.fn 112)))] [(2000,(.lst 52 3 o2000))] r O :=
 c1q (E:=d0q) (hs:=l1q) (c:=(a2q Tryz.f214)) (n:=58) (res:=[]) (rs:=.t []) (ks:=[(2000,(false))]) (dir:=[2000]) g7q a5q rfl Tryz.func214 (by kernel_rfl) (by kernel_rfl) (by kernel_rfl) (by kernel_rfl) (a4q (by kernel_rfl) h)
def a9yq:b4q:=⟨[],[]⟩
theorem a7Tq {t t1:Int} {t2:LL} {r:AV} {O:List (Nat×Ob)} (h:∃m,XC pg 130 [.dat (r3 t t1 t2),.one (.clo 198 [(2000,0)])] [(2000,.var [.d (.int .i64 0)])] (.tup []) [(2000,.var [.d (.int .i64 m)])]/\Z m=r/\[]=O):XC pg 175 [(.dat [(.int .i64 t),(.int .i64 t1),(.sl t2)])] [] r O :=
 c1q (E:=env) (hs:=a9yq) (c:=(a2q Tryz.f175)) (n:=8) (res:=[.tmp 2]) (rs:=.c (.i .i64)) (ks:=[]) (dir:=[]) envOk a5q rfl Tryz.func175 (by kernel_rfl) (by kernel_rfl) (by kernel_rfl) (by kernel_rfl) (a4q (by kernel_rfl) h)
def T3q:b4q:=⟨[(6,⟨[0,3,64,65,66],[],[],[],[],[],[]⟩)],[]⟩
def j9q (r:AV) (O:List (Nat×Ob)) (s0 s64:LL) (s65 s66:Int) (s3 s31:Int) (s32:LL):Prop:=CLk 105 env T3q (a2q Tryz.f176) [1,1,1,0,1,0,0] (e0q env [.tmp 4] (.c .b) [] [] r O) ⟨[(0,(L s0)),(3,(.one (.op 1900 0))),(64,(L s64)),(65,(Z s65)),(66,(Z s66))],[(1900,(.var [(.d (.int .i64 s3)),(.d (.int .i64 s31)),(.d (.sl s32))]))]⟩
theorem U2q {r:AV} {O:List (Nat×Ob)} {s0 s64:LL} {s65 s66 s3 s31:Int} {s32:LL} (h:ifB (decide (s66<s65))
 (∃m:Nat,s66=m/\∃n n1 xs,(s64[m]?)=some (r3 n n1 xs)/\∃b,XC pg 176 [L s0,.dat (r3 n n1 xs)] [] (B b) []/\ifB (!b)
 (B false=r/\[]=O)
 (∃m1:Nat,s3=m1/\∃q n2 b1,(s0[m1]?)=some [.str q,.int .i64 n2,.bool b1]/\ifB b1
 (ifB (decide (n=s3))
 (B false=r/\[]=O)
 (ifB (decide ((0:Int)<s66))
 (∃m2:Nat,(a0z .i64 (s66-1))=(m2:Int)/\∃n3 n4 xs1,(s32[m2]?)=some (r3 n3 n4 xs1)/\∃b2,XC pg 110 [.dat (r3 n n1 xs),.dat (r3 n3 n4 xs1)] [] (B b2) []/\ifB b2
 (B false=r/\[]=O)
 (j9q r O s0 s64 s65 (a0z .i64 (s66+1)) s3 s31 s32))
 (j9q r O s0 s64 s65 (a0z .i64 (s66+1)) s3 s31 s32)))
 (j9q r O s0 s64 s65 (a0z .i64 (s66+1)) s3 s31 s32)))
 (B true=r/\[]=O)):j9q r O s0 s64 s65 s66 s3 s31 s32:=by
 unfold j9q CLk
 refine c6q (E:=env) (hs:=T3q) envOk a5q ?_
 exact a4q (by kernel_rfl) h
theorem a5Cq {p:LL} {p1 p2:Int} {p3:LL} {r:AV} {O:List (Nat×Ob)} (h:∃b,XC pg 132 [.dat (r3 p1 p2 p3)] [] (B b) []/\ifB b
 (∃b1,XC pg 89 [Z p2,Z 0,Z 99] [] (B b1) []/\ifB b1
 ((B (decide ((p3.length:Int)=0)))=r/\[]=O)
 (B false=r/\[]=O))
 (∃b2,XC pg 171 [L p,Z p1] [] (B b2) []/\ifB (!b2)
 (B false=r/\[]=O)
 (ifB (decide (p2≠0))
 (B false=r/\[]=O)
 (∃m:Nat,p1=m/\∃q n b3,(p[m]?)=some [.str q,.int .i64 n,.bool b3]/\ifB (!b3)
 (∃m1:Nat,p1=m1/\∃q1 n1 b4,(p[m1]?)=some [.str q1,.int .i64 n1,.bool b4]/\ifB (decide ((p3.length:Int)≠n1))
 (B false=r/\[]=O)
 (∃m2:Nat,p1=m2/\∃q2 n2 b5,(p[m2]?)=some [.str q2,.int .i64 n2,.bool b5]/\ifB b5
 (ifB (decide ((p3.length:Int)<2))
 (B false=r/\[]=O)
 (j9q r O p p3 (p3.length:Int) (0:Int) p1 p2 p3))
 (j9q r O p p3 (p3.length:Int) (0:Int) p1 p2 p3)))
 (∃m3:Nat,p1=m3/\∃q3 n3 b6,(p[m3]?)=some [.str q3,.int .i64 n3,.bool b6]/\ifB b6
 (ifB (decide ((p3.length:Int)<2))
 (B false=r/\[]=O)
 (j9q r O p p3 (p3.length:Int) (0:Int) p1 p2 p3))
 (j9q r O p p3 (p3.length:Int) (0:Int) p1 p2 p3)))))):XC pg 176 [(L p),(.dat [(.int .i64 p1),(.int .i64 p2),(.sl p3)])] [] r O :=
 c1q (E:=env) (hs:=T3q) (c:=(a2q Tryz.f176)) (n:=105) (res:=[.tmp 4]) (rs:=.c .b) (ks:=[]) (dir:=[]) envOk a5q rfl Tryz.func176 (by kernel_rfl) (by kernel_rfl) (by kernel_rfl) (by kernel_rfl) (a4q (by kernel_rfl) h)
def k6q:b4q:=⟨[(1,⟨[0,1,2,3,10],[],[],[],[],[],[]⟩)],[]⟩
def f9q (r:AV) (O:List (Nat×Ob)) (a b:Int) (n i:Int) (data:LL):Prop:=CLk 38 d0q k6q (a2q Tryz.f216) [1,0,0] (e0q d0q [] (.t []) [(2000,(false))] [2000] r O) ⟨[(0,(.one (.ol 2000))),(1,(Z a)),(2,(Z b)),(3,(Z n)),(10,(Z i))],[(2000,(.lst 52 3 data))]⟩
theorem n5q {r:AV} {O:List (Nat×Ob)} {a b n i:Int} {data:LL} (h:ifB (decide (i<n))
 (∃m:Nat,(a0z .i64 (b+i))=(m:Int)/\Do (m<data.length)/\∃n2:Nat,(m*3)=(n2*3)/\∃n3 n4:Int,∃d:Da,(data[n2]?)=some [.int .i64 n3,.int .i64 n4,d]/\∃m1:Nat,(a0z .i64 (a+i))=(m1:Int)/\Do (m1<data.length)/\∃n5:Nat,(m1*3)=(n5*3)/\∃n6 n7:Int,∃d1:Da,(data[n5]?)=some [.int .i64 n6,.int .i64 n7,d1]/\∃m2:Nat,(a0z .i64 (a+i))=(m2:Int)/\Do (m2<data.length)/\∃m3:Nat,(m2*3)=(m3*3+0)/\∃n8 n9:Int,∃d2:Da,(data[m3]?)=some [.int .i64 n8,.int .i64 n9,d2]/\∃m4:Nat,(a0z .i64 (b+i))=(m4:Int)/\Do (m4<a2z (a3z data m3 ([]++[Da.int a1z n3,Da.int a1z n4,d]++[])))/\∃m5:Nat,(m4*3)=(m5*3+0)/\∃n10 n11:Int,∃d3:Da,((a3z data m3 ([]++[Da.int a1z n3,Da.int a1z n4,d]++[]))[m5]?)=some [.int .i64 n10,.int .i64 n11,d3]/\f9q r O a b n (a0z .i64 (i+1)) (a3z (a3z data m3 ([]++[Da.int a1z n3,Da.int a1z n4,d]++[])) m5 ([]++[Da.int a1z n6,Da.int a1z n7,d1]++[])))
 ((.tup [])=r/\[(2000,.lst 52 3 data)]=O)):f9q r O a b n i data:=by
 unfold f9q CLk
 refine c6q (E:=d0q) (hs:=k6q) g7q a5q ?_
 exact a4q (by kernel_rfl) h
theorem x5q {a b n:Int} {o2000:LL} {r:AV} {O:List (Nat×Ob)} (h:f9q r O a b n (0:Int) o2000):XC pg 216 [(.one (.ol 2000)),(Z a),(Z b),(Z n),(.one (.d (.fn 112)))] [(2000,(.lst 52 3 o2000))] r O :=
 c1q (E:=d0q) (hs:=k6q) (c:=(a2q Tryz.f216)) (n:=38) (res:=[]) (rs:=.t []) (ks:=[(2000,(false))]) (dir:=[2000]) g7q a5q rfl Tryz.func216 (by kernel_rfl) (by kernel_rfl) (by kernel_rfl) (by kernel_rfl) (a4q (by kernel_rfl) h)
def v4q:b4q:=⟨[(3,⟨[1,10,11,12],[],[],[],[],[],[]⟩)],[]⟩
def l7q (r:AV) (O:List (Nat×Ob)) (s10:LL) (s11 s12 o2000:Int):Prop:=CLk 20 env v4q (a2q Tryz.f130) [1,1,1,0,0] (e0q env [] (.t []) [(2000,(true))] [2000] r O) ⟨[(1,(.one (.clo 198 [(2000,0)]))),(10,(L s10)),(11,(Z s11)),(12,(Z s12))],[(2000,(.var [(.d (.int .i64 o2000))]))]⟩
theorem z5q {r:AV} {O:List (Nat×Ob)} {s10:LL} {s11 s12 o2000:Int} (h:ifB (decide (s12<s11))
 (∃m:Nat,s12=m/\∃n n1 xs,(s10[m]?)=some (r3 n n1 xs)/\∃m1,XC pg 130 [.dat (r3 n n1 xs),.one (.clo 198 [(2000,0)])] [(2000,.var [.d (.int .i64 o2000)])] (.tup []) [(2000,.var [.d (.int .i64 m1)])]/\l7q r O s10 s11 (a0z .i64 (s12+1)) m1)
 ((.tup [])=r/\[(2000,.var [.d (.int .i64 o2000)])]=O)):l7q r O s10 s11 s12 o2000:=by
 unfold l7q CLk
 refine c6q (E:=env) (hs:=v4q) envOk a5q ?_
 exact a4q (by kernel_rfl) h
theorem V1q {t t1:Int} {t2:LL} {o2000:Int} {r:AV} {O:List (Nat×Ob)} (h:∃m,XC pg 198 [.dat (r3 t t1 t2),.one (.op 2000 0)] [(2000,.var [.d (.int .i64 o2000)])] (.tup []) [(2000,.var [.d (.int .i64 m)])]/\l7q r O t2 (t2.length:Int) (0:Int) m):XC pg 130 [(.dat [(.int .i64 t),(.int .i64 t1),(.sl t2)]),(.one (.clo 198 [(2000,0)]))] [(2000,(.var [(.d (.int .i64 o2000))]))] r O :=
 c1q (E:=env) (hs:=v4q) (c:=(a2q Tryz.f130)) (n:=20) (res:=[]) (rs:=.t []) (ks:=[(2000,(true))]) (dir:=[2000]) envOk a5q rfl Tryz.func130 (by kernel_rfl) (by kernel_rfl) (by kernel_rfl) (by kernel_rfl) (a4q (by kernel_rfl) h)
def a9cq:b4q:=⟨[],[]⟩
theorem a7Lq {t t1:Int} {t2:LL} {r:AV} {O:List (Nat×Ob)} (h:(B (decide (t=(-1:Int))))=r/\[]=O):XC pg 132 [(.dat [(.int .i64 t),(.int .i64 t1),(.sl t2)])] [] r O :=
 c1q (E:=env) (hs:=a9cq) (c:=(a2q Tryz.f132)) (n:=6) (res:=[.tmp 2]) (rs:=.c .b) (ks:=[]) (dir:=[]) envOk a5q rfl Tryz.func132 (by kernel_rfl) (by kernel_rfl) (by kernel_rfl) (by kernel_rfl) (a4q (by kernel_rfl) h)
def a5Xq:b4q:=⟨[],[]⟩
theorem a4Rq {x x1:Int} {x2:LL} {o2000:Int} {r:AV} {O:List (Nat×Ob)} (h:(.tup [])=r/\[(2000,.var [.d (.int .i64 (a0z .i64 (o2000+1)))])]=O):XC pg 198 [(.dat [(.int .i64 x),(.int .i64 x1),(.sl x2)]),(.one (.op 2000 0))] [(2000,(.var [(.d (.int .i64 o2000))]))] r O :=
 c1q (E:=env) (hs:=a5Xq) (c:=(a2q Tryz.f198)) (n:=5) (res:=[]) (rs:=.t []) (ks:=[(2000,(true))]) (dir:=[2000]) envOk a5q rfl Tryz.func198 (by kernel_rfl) (by kernel_rfl) (by kernel_rfl) (by kernel_rfl) (a4q (by kernel_rfl) h)
end AM
end Go.Proofs.YtmgfoalfimpkjaaGreat
namespace Go.Proofs.YtmgfoalfimpkjaaGreat
namespace AM
open Go
inductive Tm where
 | mk (f v:Int) (ks:List Tm)
mutual
def Tm.da:Tm->List Da
 | .mk f v ks=>[.int .i64 f,.int .i64 v,.sl (Tm.das ks)]
def Tm.das:List Tm->List (List Da)
 | []=>[]
 | t::r=>t.da::Tm.das r
end
def Tm.f:Tm->Int | .mk f _ _=>f
def Tm.v:Tm->Int | .mk _ v _=>v
def Tm.ks:Tm->List Tm | .mk _ _ ks=>ks
theorem Tm.das_map (l:List Tm):Tm.das l=l.map Tm.da:=by induction l <;> simp_all [Tm.das]
theorem Tm.da_len (t:Tm):t.da.length=3:=by cases t; rfl
theorem Tm.ind {p:Tm->Prop} (h:∀f v ks,(∀t∈ks,p t)->p (.mk f v ks)) (t:Tm):p t:=by
 refine Tm.rec (motive_1:=p) (motive_2:=fun l=>∀t∈l,p t) (fun f v ks ih=>h f v ks ih) (by simp) (fun t l h1 h2 => ?_) t
 intro u hu
 rcases ajz.1 hu with rfl | hu
 ·exact h1
 ·exact h2 u hu
mutual
def Tm.cn:Tm->Nat
 | .mk _ _ ks=>Tm.cns ks
def Tm.cns:List Tm->Nat
 | []=>0
 | t::r=>1+t.cn+Tm.cns r
end
structure Li where
 p:Bool
 l:Tm
 r:Tm
def Li.da (x:Li):List Da:=.bool x.p::(x.l.da++x.r.da)
structure Cl where
 ls:List Li
def Cl.da (x:Cl):List Da:=[.sl (x.ls.map Li.da)]
structure Sy where
 nm:ByteArray
 ar:Int
 ac:Bool
def Sy.da (x:Sy):List Da:=[.str x.nm,.int .i64 x.ar,.bool x.ac]
structure Bd where
 v:Int
 t:Tm
def Bd.da (x:Bd):List Da:=.int .i64 x.v::x.t.da
structure Ru where
 l:Tm
 r:Tm
def Ru.da (x:Ru):List Da:=x.l.da++x.r.da
def In.da (n:Int):List Da:=[.int .i64 n]
structure Sp where
 kind:Int
 a:Int
 b:Int
 i:Int
 k:Int
 left:Bool
 side:Bool
 way:List Int
 ext:Bool
 sub:List Bd
 cl:Cl
def Sp.da (x:Sp):List Da:=[.int .i64 x.kind,.int .i64 x.a,.int .i64 x.b,.int .i64 x.i,.int .i64 x.k,.bool x.left,.bool x.side,.sl (x.way.map In.da),.bool x.ext,.sl (x.sub.map Bd.da),.sl (x.cl.ls.map Li.da)]
structure Wk where
 sig:List Sy
 input:List Cl
 log:List Sp
 active:List Int
 passive:List Int
 lost:Bool
def Wk.da (x:Wk):List Da:=[.sl (x.sig.map Sy.da),.sl (x.input.map Cl.da),.sl (x.log.map Sp.da),.sl (x.active.map In.da),.sl (x.passive.map In.da),.bool x.lost]
theorem Li.da_len (x:Li):x.da.length=7:=by obtain ⟨p,⟨f,v,ks⟩,⟨g,u,ls⟩⟩:=x; rfl
theorem Cl.da_len (x:Cl):x.da.length=1:=rfl
theorem Sy.da_len (x:Sy):x.da.length=3:=rfl
theorem Bd.da_len (x:Bd):x.da.length=4:=by obtain ⟨v,⟨f,u,ks⟩⟩:=x; rfl
theorem Sp.da_len (x:Sp):x.da.length=11:=rfl
def cnL {α:Type} (cn:α->Nat) (l:List α):Nat:=l.length+(l.map cn).sum
def Li.cn (x:Li):Nat:=x.l.cn+x.r.cn
def Cl.cn (x:Cl):Nat:=cnL Li.cn x.ls
def Sy.cn (x:Sy):Nat:=x.nm.size
def Bd.cn (x:Bd):Nat:=x.t.cn
def Ru.cn (x:Ru):Nat:=x.l.cn+x.r.cn
def In.cn (n:Int):Nat:=0
def Sp.cn (x:Sp):Nat:=x.way.length+cnL Bd.cn x.sub+x.cl.cn
def Wk.cn (x:Wk):Nat:=cnL Sy.cn x.sig+cnL Cl.cn x.input+cnL Sp.cn x.log+x.active.length+x.passive.length
theorem Tm.cns_cnL (l:List Tm):Tm.cns l=cnL Tm.cn l:=by
 induction l with
 | nil=>rfl
 | cons t r ih=>simp [Tm.cns,cnL,ih]; omega
theorem O1q {α:Type} {cn:α->Nat} {l:List α} {x:α} (h:x∈l):cn x+l.length<=cnL cn l:=by
 induction l with
 | nil=>simp at h
 | cons y r ih =>
  rcases ajz.1 h with rfl | h
  ·simp [cnL]; omega
  ·have:=ih h; simp [cnL] at this ⊢; omega
theorem B9q {α:Type} (cn:α->Nat) (l:List α):l.length<=cnL cn l:=by simp [cnL]
theorem d4q {α:Type} {l:List α} {i:Nat} (h:i<l.length):∃x,l[i]?=some x:=⟨l[i],aez h⟩
theorem l0q {α β:Type} {g:α->β} {l:List α} {i:Nat} {x:α} (h:l[i]?=some x):(l.map g)[i]?=some (g x):=by simp [h]
theorem u5q {l:List Tm} {i:Nat} {x:Tm} (h:l[i]?=some x):(Tm.das l)[i]?=some x.da:=by rw [Tm.das_map]; simp [h]
theorem d3q (l:List Tm):(Tm.das l).length=l.length:=by rw [Tm.das_map]; simp
theorem wrI {x:Int} (h1 : -9223372036854775808<=x) (h2:x<=9223372036854775807):a0z .i64 x=x:=by
 rw [IntKind.wrap_i64]; omega
theorem wr1 {k n:Nat} (h:k<n) (hn:n<=281474976710656):a0z .i64 ((k:Int)+1)=((k+1:Nat):Int):=by
 rw [wrI (by omega) (by omega)]; omega
theorem q3q {p : Nat → Prop} (n : Nat) (h1 : p n) (h2 : ∀ i, i < n → p (i + 1) → p i) : ∀ i, i ≤ n → p i := by
  intro i hi
  induction hd : n - i generalizing i with
  | zero => have : i = n := by omega
            subst this; exact h1
  | succ d ih => exact h2 i (by omega) (ih (i + 1) (by omega) (by omega))
theorem k7q {i n:Nat} (h:i<n):decide ((i:Int)<(n:Int))=true:=by simp; exact h
theorem j4q {i n:Nat} (h:n<=i):decide ((i:Int)<(n:Int))=false:=by simp; exact h
theorem P6q {i:Int}:decide (i≠i)=false:=by simp
theorem aaeq {i:Bool}:decide (i≠i)=false:=by simp
theorem af5q {i:ByteArray}:decide (i≠i)=false:=by simp
section
variable {P:Program} {f:FuncId} {xs:List AV} {I:List (Nat×Ob)} {r:AV} {O:List (Nat×Ob)}
theorem t8q (h:Fits xs->XC P f xs I r O):XC P f xs I r O:=⟨fun w S β vs hlt hr hin=>(h ⟨w,S,β,vs,hr⟩).h w S β vs hlt hr hin⟩
theorem XC.acall (h:XC P f xs [] r []):ACall P f xs r []:=XCall.plain h.h
end
end AM
end Go.Proofs.YtmgfoalfimpkjaaGreat
namespace Go.Proofs.YtmgfoalfimpkjaaGreat
namespace AM
open Go Go.ChangeShapes Go.WideShapes Go.RowKit
def a6jq (T:TypeId->List Da->Prop):List TypeId->List Da->Prop
 | [],ds=>ds=[]
 | t::ts,ds=>∃d r,ds=d++r/\T t d/\a6jq T ts r
def y8q (P:Program):Nat->TypeId->List Da->Prop
 | 0,_,_=>False
 | n+1,t,ds=>match P.underlying t with
  | some .bool=>∃b,ds=[.bool b]
  | some (.int k)=>∃m,ds=[.int k m]/\(Lit.int k m).wf=true
  | some .string=>∃s,ds=[.str s]
  | some (.slice e)=>∃xs,ds=[.sl xs]/\∀x∈xs,y8q P n e x
  | some (.struct fs)=>a6jq (y8q P n) (fs.toList.map (·.type)) ds
  | _=>False
def layB (P:Program):List Field->Nat->Nat->Bool
 | [],off,n=>off==n
 | f::r,off,n=>f.offset==off&&layB P r (off+P.cellsOf f.type) n
def a0Qq (P:Program) (ts:List TypeId):Bool:=ts.all fun t=>match P.underlying t with
 | some .bool=>true
 | some (.int _)=>true
 | some .string=>true
 | some (.slice e)=>ts.contains e&&decide (0<P.cellsOf e)&&decide (0<P.bytesOf e)
 | some (.struct fs)=>layB P fs.toList 0 (P.cellsOf t)&&fs.toList.all fun f=>ts.contains f.type
 | _=>false
theorem a3Eq {H:Type} {P:Program} {e:TypeId}:∀{l:List (DataW H)} {d:DataW H},d∈l->∀n∈d.weights P e,n∈DataW.weightsAll P e l
 | a::l,d,hd,n,hn=>by
  simp only [DataW.weightsAll,ahz]
  rcases ajz.1 hd with rfl | hd
  ·exact .inl hn
  ·exact .inr (a3Eq hd n hn)
section
variable {H:Type} {enc:TypeId×Value->H} {P:Program} {w:World} {held:Bool} {ts:List TypeId}
theorem adyq (b off i:Nat):(⟨b,off,none⟩:Addr).add i=⟨b,off+i,none⟩:=by unfold Addr.add; split <;> simp_all
theorem a3Fq {n:Nat} (ih:∀t cs x,t∈ts->DataW.trod enc P w 0 (fun _=>true) held n t cs=some x->(∀m∈x.1.weights P t,m<=reachBytes)->∃ds,y8q P n t ds/\RepDs w (· < w.heap.size) ds cs) :
  ∀(fs:List Field) (off total:Nat) (cs:List Value) (xs:List (DataW H×List MemPlace)),layB P fs off total=true->(fs.all fun f=>ts.contains f.type)=true->cs.length=total->off<=total->xs.length=fs.length ->
   (∀(i:Nat) (f:Field),fs[i]?=some f->DataW.trod enc P w 0 (fun _=>true) held n f.type ((cs.drop f.offset).take (P.cellsOf f.type))=xs[i]?) ->
   (∀m∈DataW.weightsEach P (fs.map (·.type)) (xs.map (·.1)),m<=reachBytes) ->
   ∃ds,a6jq (y8q P n) (fs.map (·.type)) ds/\RepDs w (· < w.heap.size) ds (cs.drop off)
 | [],off,total,cs,xs,hl,_,hc,_,_,_,_=>by
  simp only [layB,beq_iff_eq] at hl
  refine ⟨[],rfl,?_⟩
  rw [List.drop_eq_nil_of_le (by omega)]
  exact .nil
 | f::r,off,total,cs,[],hl,_,hc,_,hx,_,_=>by simp at hx
 | f::r,off,total,cs,x::xs,hl,ht,hc,ho,hx,hr,hw=>by
  simp only [layB,afz,beq_iff_eq] at hl
  obtain ⟨hl1,hl2⟩:=hl
  simp only [List.all_cons,afz] at ht
  have h0:=hr 0 f rfl
  simp only [List.getElem?_cons_zero] at h0
  simp only [List.map_cons,DataW.weightsEach,ahz] at hw
  obtain ⟨d,hd1,hd2⟩:=ih f.type _ x (by simpa using ht.1) h0 fun m hm=>hw m (.inl hm)
  have hle:off+P.cellsOf f.type<=total:=by
   have key:∀(l:List Field) (o:Nat),layB P l o total=true->o<=total:=by
    intro l
    induction l with
    | nil=>intro o h; simp only [layB,beq_iff_eq] at h; omega
    | cons g l ih2=>intro o h; simp only [layB,afz,beq_iff_eq] at h; have:=ih2 _ h.2; omega
   exact key _ _ hl2
  obtain ⟨ds,hs1,hs2⟩:=a3Fq ih r (off+P.cellsOf f.type) total cs xs hl2 ht.2 hc hle (by simpa using hx) (fun i g hg=>by simpa using hr (i+1) g (by simpa using hg)) fun m hm=>hw m (.inr hm)
  refine ⟨d++ds,⟨d,ds,rfl,hd1,hs1⟩,?_⟩
  have e:cs.drop off=(cs.drop off).take (P.cellsOf f.type)++cs.drop (off+P.cellsOf f.type):=by
   rw [<-List.drop_drop,List.take_append_drop]
  rw [e]
  rw [hl1] at hd2
  exact hd2.app hs2
theorem abhq {n C:Nat} {e:TypeId} {a:Addr} (hC:C=P.cellsOf e) (hpos:0<C) (ih:∀cs x,DataW.trod enc P w 0 (fun _=>true) held n e cs=some x->(∀m∈x.1.weights P e,m<=reachBytes)->∃ds,y8q P n e ds/\RepDs w (· < w.heap.size) ds cs) (elems:List (DataW H×List MemPlace)) :
  ∀(k:Nat),k<=elems.length->(∀i,i<k->(w.cells? 0 (a.add (i*C)) C).bind (DataW.trod enc P w 0 (fun _=>true) held n e)=elems[i]?)->(∀i x,i<k->elems[i]?=some x->∀m∈x.1.weights P e,m<=reachBytes) ->
   ∃(xs:List (List Da)) (us:List Value),xs.length=k/\us.length=k*C/\RepDs w (· < w.heap.size) xs.flatten us/\(∀x∈xs,y8q P n e x/\x.length=C)/\∀i u,us[i]?=some u->w.cell? (a.add i)=some u:=by
 intro k
 induction k with
 | zero=>intro _ _ _; exact ⟨[],[],rfl,by simp,.nil,by simp,by simp⟩
 | succ k ihk =>
  intro hk hel hw
  obtain ⟨xs,us,h1,h2,h3,h4,h5⟩:=ihk (by omega) (fun i hi=>hel i (by omega)) fun i x hi=>hw i x (by omega)
  have hx:=hel k (by omega)
  rw [aez (by omega)] at hx
  simp only [Option.bind_eq_some_iff] at hx
  obtain ⟨cs,hc,hr⟩:=hx
  obtain ⟨d,hd1,hd2⟩:=ih cs _ hr (hw k _ (by omega) (aez (by omega)))
  obtain ⟨_,hcl,hcell⟩:=World.cells?_some hc
  have hdl:=hd2.len
  refine ⟨xs++[d],us++cs,by simp [h1],by simp [h2,hcl,Nat.add_mul],by simpa using h3.app hd2,fun x hx => ?_,fun i u hu => ?_⟩
  ·rcases ahz.1 hx with hx | hx
   ·exact h4 x hx
   ·simp only [List.mem_singleton] at hx; subst hx; exact ⟨hd1,by omega⟩
  ·by_cases hi:i<us.length
   ·rw [List.getElem?_append_left hi] at hu; exact h5 i u hu
   ·rw [List.getElem?_append_right (by omega)] at hu
    have hj:i-us.length<C:=by rw [<-hcl]; exact (List.getElem?_eq_some_iff.1 hu).1
    have:=hcell (i-us.length) hj
    rw [Go.Deep.add_add,show k*C+(i-us.length)=i by omega,hu] at this
    exact this
theorem afhq (hcl:a0Qq P ts=true):∀(fuel:Nat) t cs x,t∈ts->DataW.trod enc P w 0 (fun _=>true) held fuel t cs=some x->(∀m∈x.1.weights P t,m<=reachBytes)->∃ds,y8q P fuel t ds/\RepDs w (· < w.heap.size) ds cs:=by
 intro fuel
 induction fuel with
 | zero=>intro t cs x _ h; simp [DataW.trod] at h
 | succ n ih =>
  intro t cs x ht h hw
  have hc:=amz.1 hcl t ht
  simp only [y8q]
  split at hc
  ·rename_i hu
   obtain ⟨b,rfl,rfl⟩:=DataW.trod_bool hu h
   exact ⟨_,⟨b,rfl⟩,.bool_ b⟩
  ·rename_i hu
   obtain ⟨m,rfl,rfl,hwf⟩:=DataW.trod_int hu h
   exact ⟨_,⟨m,rfl,hwf⟩,.int_ _ m⟩
  ·rename_i hu
   obtain ⟨s,rfl,rfl,hs⟩:=DataW.trod_string hu h
   have:=hw s.data.toList.length (by simp [DataW.weights])
   refine ⟨_,⟨s,rfl⟩,.str_ s ?_⟩
   have h2:s.data.toList.length=s.size:=by rw [Array.length_toList]; rfl
   have:=reachBytes_lt
   omega
  ·rename_i e hu
   simp only [afz,decide_eq_true_eq,anz] at hc
   obtain ⟨⟨he,hpos⟩,hb⟩:=hc
   rcases DataW.trod_slice hu h with ⟨rfl,rfl⟩ | ⟨a,len,cap,elems,rest,n',hn,rfl,rfl,_,hle,hcap,hlen,hel,hsp,_⟩
   ·exact ⟨[.sl []],⟨[],rfl,by simp⟩,[],.sl0 rfl rfl (apz _) (apz _) .nil,by simp⟩
   ·obtain rfl:n'=n:=by omega
    obtain ⟨hr,_⟩:=hsp rfl
    simp only [DataW.weights,hu,ajz,ahz] at hw
    obtain ⟨xs,us,h1,h2,h3,h4,h5⟩:=abhq (a:=a) rfl hpos (fun cs x=>ih e cs x he) elems len (by omega) hel fun i x hi hx m hm=>hw m (.inr (.inl (a3Eq (List.mem_map.2 ⟨x,List.mem_of_getElem? hx,rfl⟩) m hm)))
    have hsm:len<=281474976710656:=by
     have:=hw _ (.inl rfl)
     have h47:=reachBytes_lt
     simp only [List.length_map] at this
     have:len*1<=(elems.length+rest.length)*P.bytesOf e:=Nat.mul_le_mul (by omega) hb
     omega
    refine ⟨[.sl xs],⟨xs,rfl,fun x hx=>(h4 x hx).1⟩,?_⟩
    by_cases h0:len=0
    ·subst h0
     have:xs=[]:=List.length_eq_zero_iff.1 h1
     subst this
     exact ⟨[],.sl0 rfl rfl hle hsm .nil,by simp⟩
    ·have hus:0<us.length:=by rw [h2]; exact Nat.mul_pos (by omega) hpos
     have hc0:=h5 0 _ (aez hus)
     obtain ⟨b,off,spot⟩:=a
     have hb2:spot=none/\b<w.heap.size:=by
      simp only [Addr.add,if_true,World.cell?] at hc0
      split at hc0
      ·rename_i hh
       split at hc0
       ·simp at hc0
       ·rename_i hs
        refine ⟨by cases spot <;> simp_all,?_⟩
        exact (Array.getElem?_eq_some_iff.1 hh).1
      ·simp at hc0
     obtain ⟨rfl,hb3⟩:=hb2
     obtain ⟨fi,hfi,hS⟩:=h3
     refine ⟨b::(fi++[]),.sl1 hfi h1.symm hle hsm (fun y hy=>(h4 y hy).2) (fun i u hu => ?_) hb3 .nil,fun b' hb' => ?_⟩
     ·have:=h5 i u hu; rwa [adyq] at this
     ·simp only [akz,ajz] at hb'
      rcases hb' with rfl | hb'
      ·exact hb3
      ·exact hS b' hb'
  ·rename_i fs hu
   simp only [afz] at hc
   obtain ⟨xs,n',hn,rfl,hcs,hxl,hf⟩:=DataW.trod_struct hu h
   obtain rfl:n'=n:=by omega
   obtain ⟨ds,h1,h2⟩:=a3Fq ih fs.toList 0 (P.cellsOf t) cs xs hc.1 hc.2 hcs (apz _) (by simpa using hxl) (fun i f hi=>hf i f (by simpa using hi)) (by simpa [DataW.weights,hu] using hw)
   exact ⟨ds,h1,by simpa using h2⟩
  ·simp at hc
end
def a5uq (P:Program) (t:TypeId) (x:AV):Prop:=match P.underlying t with
 | some (.struct _)=>∃n ds,x = .dat ds/\y8q P n t ds
 | _=>∃n d,x = .one (.d d)/\y8q P n t [d]
def a4xq (P:Program):List TypeId->List AV->Prop
 | [],[]=>True
 | t::ts,x::xs=>a5uq P t x/\a4xq P ts xs
 | _,_=>False
theorem ab4q {P:Program} {w:World} {base:Nat} {t:TypeId} {v:Value} (hc:a0Qq P [t]=true\/True) (hs:(∀fs,P.underlying t≠some (.struct fs))/\(P.underlying t=some .bool\/(∃k,P.underlying t=some (.int k))\/P.underlying t=some .string\/∃e,P.underlying t=some (.slice e))) (h:Value.okWide P w .any base t v):v.cells = #[v]:=by
 obtain ⟨_,hu | ⟨k,hu⟩ | hu | ⟨e,hu⟩⟩:=hs <;> simp only [Value.okWide,hu,Cell.okWide,Cell.ok] at h <;> cases v <;> simp_all [Value.cells]
section
variable {H:Type} {enc:TypeId×Value->H} {P:Program} {w:World} {ts:List TypeId} {β:Nat->OLoc}
theorem ae1q (hcl:a0Qq P ts=true) {t:TypeId} {v:Value} {d:DataW H} {p:List MemPlace} (ht:t∈ts) {base:Nat} (hv:Value.okWide P w .any base t v) (h:DataW.Trod enc P w 0 (fun _=>true) true t v d p) (hw:∀m∈d.weights P t,m<=reachBytes) :
  ∃x,a5uq P t x/\RepV w (· < w.heap.size) β x v:=by
 obtain ⟨fuel,hf⟩:=h
 obtain ⟨ds,h1,h2⟩:=afhq hcl fuel t _ _ ht hf hw
 have hc:=amz.1 hcl t ht
 split at hc
 all_goals try (simp at hc; done)
 case h_5 fs hu =>
  obtain ⟨cs,rfl,_⟩:=okWide_struct hu hv
  refine ⟨.dat ds,by unfold a5uq; rw [hu]; exact ⟨_,_,rfl,h1⟩,?_⟩
  have:RepV w (· < w.heap.size) β (.dat ds) (.agg cs.toList.toArray):=.dat (by simpa [Value.cells] using h2) .nil
  simpa using this
 all_goals
  rename_i hu
  have hcell:=ab4q (.inr trivial) ⟨by intro fs; rw [hu]; simp,by rw [hu]; simp⟩ hv
  rw [hcell] at h2
  have hl:=h2.len
  match ds,hl with
  | [d0],_=>exact ⟨.one (.d d0),by unfold a5uq; rw [hu]; exact ⟨_,_,rfl,h1⟩,.one (.d h2)⟩
theorem a6Kq (hcl:a0Qq P ts=true) {base:Nat}:∀(us:List TypeId) (vs:List Value) (ds:List (DataW H)) (p:List MemPlace),(∀t∈us,t∈ts)->(∀(j:Nat) t v,us[j]?=some t->vs[j]?=some v->Value.okWide P w .any base t v) ->
  DataW.TrodAll enc P w 0 (fun _=>true) true us vs ds p->(∀m∈DataW.weightsEach P us ds,m<=reachBytes)->∃xs,a4xq P us xs/\RepVs w (· < w.heap.size) β xs vs
 | [],[],[],p,_,_,_,_=>⟨[],trivial,.nil⟩
 | [],[],_::_,_,_,_,h,_=>by simp [DataW.TrodAll] at h
 | [],_::_,_,_,_,_,h,_=>by simp [DataW.TrodAll] at h
 | _::_,[],_,_,_,_,h,_=>by simp [DataW.TrodAll] at h
 | _::_,_::_,[],_,_,_,h,_=>by simp [DataW.TrodAll] at h
 | t::us,v::vs,d::ds,p,hts,hv,h,hw=>by
  obtain ⟨p1,q1,h1,h2,rfl⟩:=h
  simp only [DataW.weightsEach,ahz] at hw
  obtain ⟨x,hx,hr⟩:=ae1q (β:=β) hcl (hts t (by simp)) (hv 0 t v rfl rfl) h1 fun m hm=>hw m (.inl hm)
  obtain ⟨xs,hxs,hrs⟩:=a6Kq hcl us vs ds q1 (fun t ht=>hts t (by simp [ht])) (fun j t v h1 h2=>hv (j+1) t v (by simpa using h1) (by simpa using h2)) h2 fun m hm=>hw m (.inr hm)
  exact ⟨x::xs,⟨hx,hxs⟩,hr.cons hrs⟩
theorem a1Iq (hl:laidOutB P=true) {W W':World} {sp:Nat->Bool}:∀(us:List TypeId) (vs:List Value) (ds:List (DataW H)) (p:List MemPlace),(∀t∈us,P.readableRec t=true/\t<P.types.size)->(∀x∈p,W.sameAt W' x/\sp x.block=true) ->
  DataW.TrodAll enc P W 0 (fun _=>true) true us vs ds p->DataW.TrodAll enc P W' 0 sp true us vs ds p
 | [],[],[],p,_,_,h=>h
 | [],[],_::_,_,_,_,h=>by simp [DataW.TrodAll] at h
 | [],_::_,_,_,_,_,h=>by simp [DataW.TrodAll] at h
 | _::_,[],_,_,_,_,h=>by simp [DataW.TrodAll] at h
 | _::_,_::_,[],_,_,_,h=>by simp [DataW.TrodAll] at h
 | t::us,v::vs,d::ds,p,hts,hp,h=>by
  obtain ⟨p1,q1,h1,h2,rfl⟩:=h
  have ht:=hts t (by simp)
  exact ⟨p1,q1,WideElems.Trod_stays hl ht.1 ht.2 h1 (fun x hx=>(hp x (by simp [hx])).1) (fun x hx=>(hp x (by simp [hx])).2),a1Iq hl us vs ds q1 (fun t ht=>hts t (by simp [ht])) (fun x hx=>hp x (by simp [hx])) h2,rfl⟩
end
section
variable {H:Type} {enc:TypeId×Value->H} {P:Program}
theorem a7bq {f:Func} {s:ChangeSpec} {apart fresh handsOn again:Bool} {W W':World} {args:Array Value} {v:Value} {ds gs:List (DataW H)} {before pa pv:List MemPlace}
  (hW:DataW.Whole enc P f.params.toList s.vars apart W args.toList ds gs before)
  (hres:∀(b:Nat) (sp:Nat->Bool) (hd:Bool),DataW.TrodAll enc P W' b sp hd f.resultTypes.toList (v.resultList f.resultTypes.size) (s.fn H (ds++gs)).results [])
  (hargs:∀sp:Nat->Bool,(∀p∈before,sp p.block=true)->DataW.TrodAll enc P W' 0 sp true f.params.toList args.toList (s.fn H (ds++gs)).args pa)
  (hvars:∀sp:Nat->Bool,(∀p∈before,sp p.block=true)->DataW.TrodVars enc P W' sp s.vars (s.fn H (ds++gs)).vars pv)
  (hps:before=pa++pv) (hb:Below W.heap.size W W')
  (hok:∀(j:Nat) (t:TypeId) (r:Value),f.resultTypes[j]?=some t->(v.resultList f.resultTypes.size)[j]?=some r->Value.okWide P W' .any 0 t r) :
  s.post enc P f apart fresh handsOn again W args v W':=by
 have hlt:∀p∈before,p.block<W.heap.size:=fun p hp=>hW.lt p hp
 have hold:∀p∈before,(fun b=>decide (b<W.heap.size)) p.block=true:=fun p hp=>by simpa using hlt p hp
 refine ⟨ds,gs,before,[],pa,pv,hW,hres _ _ _,hargs _ hold,hvars _ hold,World.keptBut_mono (fun p hp=>⟨hp,?_⟩) (hb.frame (· ∈ before)),fun _ => ?_⟩
 ·rw [hps,ahz] at hp
  exact Or.inr hp
 ·obtain ⟨_,_,_,_,_,hz,hn⟩:=hW
  refine ⟨hok,_,_,([]++pa)++pv,⟨[]++pa,pv,trodAll_append (hargs _ (fun _ _=>rfl)) (hres _ _ _),hvars _ (fun _ _=>rfl),rfl,?_,?_⟩,?_⟩
  ·intro b off hp
   have hin:MemPlace.cell b off∈before:=by rw [hps]; simpa using hp
   rw [hb.frozen (hlt _ hin)]
   exact hz b off hin
  ·intro ha
   have:=hn ha
   rw [hps] at this
   simpa using this
  ·intro p hp _
   rw [hps]
   simpa using hp
end
theorem abzq {H:Type} {enc:TypeId×Value->H} {a:Assume} {C:Checked} {os:Os} {f:FuncId} {fn:Func} {s:ChangeSpec} {apart fresh handsOn again:Bool} {tb:TypeId} (ts:List TypeId)
  (own:ownKnob C.prog.godebug=none) (started:os.Started) (noInit:C.prog.inits.idxOf? f=none) (hfn:C.prog.funcs[f]?=some fn)
  (witness:∃(w:World) (tape:Tape) (i:Input),w.os=os/\(w.forCall tape i).Shaped C.prog/\i.vars=[]/\Input.okWide C.prog (w.forCall tape i) .any w.heap.size f i /\
   s.pre6 enc C.prog fn [] apart (w.forCall tape i).memory i.args/\a.holds C.prog (lone (Frame.enter C.prog f i.args .normal) [] (w.forCall tape i)))
  (hl:laidOutB C.prog=true) (hcl:a0Qq C.prog ts=true) (hpar:(fn.params.toList.all fun t=>C.prog.readableRec t&&decide (t<C.prog.types.size)&&ts.contains t)=true)
  (hvars:s.vars=[]) (hres:fn.resultTypes = #[tb]) (hb:C.prog.underlying tb=some .bool)
  (hs:∀ds:List (DataW H),ds.length=fn.params.toList.length->(s.fn H ds).results=[.lit (.bool true)]/\(s.fn H ds).args=ds/\(s.fn H ds).vars=[])
  (hcall:∀xs,a4xq C.prog fn.params.toList xs->ACall C.prog f xs (B true) []) :
  ReturnsInHanded a C os f .any (s.pre6 enc C.prog fn [] apart) (s.post enc C.prog fn apart fresh handsOn again):=by
 refine returnsInHanded_of_change_sized own started noInit hfn witness ?_
 intro W base args ds gs before hval hW _ hsz _
 have hW':=hW
 obtain ⟨p,q,hA,hV,rfl,hfz,hnd⟩:=hW
 rw [hvars] at hV
 obtain ⟨rfl,rfl⟩:=trodVars_none hV
 have hpar':=fun t ht=>amz.1 hpar t ht
 simp only [afz,decide_eq_true_eq,anz] at hpar'
 have hplain:s.plain.varTypes C.prog=[]:=by
  have:s.plain.vars=[]:=by unfold ChangeSpec.plain; simpa using hvars
  simp [DataSpec.varTypes,this]
 rw [hplain,akz,akz] at hsz
 have hlen:ds.length=fn.params.toList.length:=by
  have:∀(us:List TypeId) (vs:List Value) (ds:List (DataW H)) (p:List MemPlace),DataW.TrodAll enc C.prog W 0 (fun _=>true) true us vs ds p->ds.length=us.length:=by
   intro us
   induction us with
   | nil=>intro vs ds p h; cases vs <;> cases ds <;> simp [DataW.TrodAll] at h ⊢
   | cons t us ih=>intro vs ds p h; cases vs <;> cases ds <;> simp [DataW.TrodAll] at h ⊢; obtain ⟨_,_,q,h2,_⟩:=h; exact ih _ _ _ h2
  exact this _ _ _ _ hA
 obtain ⟨xs,hxs,hrep⟩:=a6Kq (β:=fun _=>⟨0,none,0,0,false,[],[]⟩) hcl fn.params.toList args.toList ds p (fun t ht=>(hpar' t ht).2) (fun j t v h1 h2=>hval j t v (by simpa using h1) (by simpa using h2)) hA (by simpa using hsz)
 have hc:=hcall xs hxs W (· < W.heap.size) (fun _=>⟨0,none,0,0,false,[],[]⟩) args.toList (fun b hb=>hb) hrep
 obtain ⟨s1,s2,s3⟩:=hs (ds++[]) (by simpa using hlen)
 have hc':Calls C.prog f args W fun e w'=>∃v S' β',e = .returned v/\Grow W (· < W.heap.size) (fun _=>⟨0,none,0,0,false,[],[]⟩) [] w' S' β'/\RepV w' S' β' (B true) v:=by simpa using hc
 refine hc'.mono fun e W' ⟨v,S',β',he,hg,hv⟩ => ?_
 obtain rfl:=hv.bool_inv
 have hbel:Below W.heap.size W W':=⟨hg.os,hg.tape,hg.output,hg.size,hg.block⟩
 have hlt:∀x∈p,x.block<W.heap.size:=fun x hx=>hW'.lt x (by simpa using hx)
 refine ⟨_,he,a7bq (pa:=p) (pv:=[]) hW' (fun b sp hd => ?_) (fun sp hsp => ?_) (fun sp _ => ?_) rfl hbel ?_⟩
 ·rw [s1,hres]
  exact trodAll_mk1 (shut_bool hb true)
 ·rw [s2,akz]
  exact a1Iq hl _ _ _ _ (fun t ht=>(hpar' t ht).1) (fun x hx=>⟨hbel.same (hlt x hx),hsp x (by simpa using hx)⟩) hA
 ·rw [s3,hvars]; rfl
 ·exact ok_one hres rfl (okWide_bool_mk hb true)
end AM
end Go.Proofs.YtmgfoalfimpkjaaGreat
set_option maxRecDepth 100000
namespace Go.Proofs.YtmgfoalfimpkjaaGreat
namespace AM
open Go Go.ChangeShapes Go.WideShapes Go.RowKit
open Go.Proofs.Tryz renaming prog->pg
theorem own:ownKnob Tryz.prog.godebug=none:=by kernel_rfl
theorem af6q:laidOutB pg=true:=by kernel_rfl
def i64 (n:Int):Prop := -9223372036854775808<=n/\n<=9223372036854775807
mutual
def Tm.ok:Tm->Prop
 | .mk f v ks=>i64 f/\i64 v/\Tm.oks ks
def Tm.oks:List Tm->Prop
 | []=>True
 | t::r=>t.ok/\Tm.oks r
end
def Li.ok (x:Li):Prop:=x.l.ok/\x.r.ok
def Cl.ok (x:Cl):Prop:=∀y∈x.ls,y.ok
def Sy.ok (x:Sy):Prop:=i64 x.ar
def Bd.ok (x:Bd):Prop:=i64 x.v/\x.t.ok
def Ru.ok (x:Ru):Prop:=x.l.ok/\x.r.ok
def Sp.ok (x:Sp):Prop:=(i64 x.kind/\i64 x.a/\i64 x.b/\i64 x.i/\i64 x.k)/\(∀n∈x.way,i64 n)/\(∀y∈x.sub,y.ok)/\x.cl.ok
def Wk.ok (x:Wk):Prop:=(∀y∈x.sig,y.ok)/\(∀y∈x.input,y.ok)/\(∀y∈x.log,y.ok)/\(∀n∈x.active,i64 n)/\(∀n∈x.passive,i64 n)
theorem acsq (n:Nat) {ds:List Da} (h:y8q pg n 9 ds):∃s,ds=[.str s]:=by
 cases n with
 | zero=>simp only [y8q] at h
 | succ n=>simp only [y8q,Tryz.underlying9] at h; exact h
end AM
end Go.Proofs.YtmgfoalfimpkjaaGreat
