/- desk.computed: root, code; the ways that throw. (Printed by wip/tools/gen_desk2.py.) -/
import Derived.Test.YtmgfbmkfomebcaaGreatDoorDkM35
set_option linter.unusedVariables false
set_option linter.unusedSimpArgs false
set_option maxRecDepth 100000
set_option maxHeartbeats 4000000
namespace Go.Proofs.YtmgfbmkfomebcaaGreatDoor
open Go.RowKit
theorem zck(w:World)(x:Int):Reads (w.alloc (.cells #[.int .i64 x] 3)) (some ⟨w.heap.size,0,none⟩) ([x].map (Value.int .i64)):=yK w _ _
theorem pK(ws:List ByteArray)(ao:Option Addr)(len cap:Nat)(w:World)(hI:StrsIn w ao len ws)(hF:zB Cm.factor.form ws=none):
 Calls Tryz.prog 20 #[.string Cm.factor.name,.slice ao len cap] w fun e w'=>e=dkPanic 12/\Below w.heap.size w w':=by
 have CF:=zH (zy ⟨#[110]⟩ ws ao len cap w hI (by decide));rw[show(⟨#[110]⟩:ByteArray).data.toList=Cm.factor.form from rfl,hF]at CF;unfold yv at CF;clear hF hI;unfold Cm.name;go_enter Tryz.func20,Tryz.ntmps20
 go_wp2_with fail
 (with_reducible refine CF.out.mono ?_);rintro e w1 ⟨rfl,hb1⟩
 exact⟨rfl,rfl,hb1⟩
theorem QE(ws:List ByteArray)(ao:Option Addr)(len cap:Nat)(w:World)(hI:StrsIn w ao len ws)(hF:zB Cm.root.form ws=none):
 Calls Tryz.prog 20 #[.string Cm.root.name,.slice ao len cap] w fun e w'=>e=dkPanic 12/\Below w.heap.size w w':=by
 have CF:=zH (zy ⟨#[110,110]⟩ ws ao len cap w hI (by decide));rw[show(⟨#[110,110]⟩:ByteArray).data.toList=Cm.root.form from rfl,hF]at CF;unfold yv at CF;clear hF hI;unfold Cm.name;go_enter Tryz.func20,Tryz.ntmps20
 go_wp2_with fail
 (with_reducible refine CF.out.mono ?_);rintro e w1 ⟨rfl,hb1⟩
 exact⟨rfl,rfl,hb1⟩
theorem QF(ws:List ByteArray)(ao:Option Addr)(len cap:Nat)(w:World)(hI:StrsIn w ao len ws)(hF:zB Cm.code.form ws=none):
 Calls Tryz.prog 20 #[.string Cm.code.name,.slice ao len cap] w fun e w'=>e=dkPanic 12/\Below w.heap.size w w':=by
 have CF:=zH (zy ⟨#[110]⟩ ws ao len cap w hI (by decide));rw[show(⟨#[110]⟩:ByteArray).data.toList=Cm.code.form from rfl,hF]at CF;unfold yv at CF;clear hF hI;unfold Cm.name;go_enter Tryz.func20,Tryz.ntmps20
 go_wp2_with fail
 (with_reducible refine CF.out.mono ?_);rintro e w1 ⟨rfl,hb1⟩
 exact⟨rfl,rfl,hb1⟩
theorem pL(ws:List ByteArray)(a:Nat)(t:ByteArray)(ao:Option Addr)(len cap:Nat)(w:World)(hW:DkW w)(hI:StrsIn w ao len ws)(hF:zB Cm.factor.form ws=some ([a],t))(hn:a<1\/1000000<a):
 Calls Tryz.prog 20 #[.string Cm.factor.name,.slice ao len cap] w fun e w'=>e=dkPanic 1/\Below w.heap.size w w':=by
 have CF:=zH (zy ⟨#[110]⟩ ws ao len cap w hI (by decide));rw[show(⟨#[110]⟩:ByteArray).data.toList=Cm.factor.form from rfl,hF]at CF;unfold yv at CF;have hbd:=(zu hF).2.1;have ha:=hbd a (by simp);clear hbd;have CP:=zH fun W=>QU (a:Int) W (by omega)
 have CK:=zH fun W=>yF 1 W
 rw[if_neg (by decide)]at CK;clear hF hI;unfold Cm.name;go_enter Tryz.func20,Tryz.ntmps20
 go_wp2_with fail
 (with_reducible refine CF.out.mono ?_);rintro e w1 ⟨v,rfl,hown,hb1⟩
 obtain⟨g,cx,rfl,hg0,hg1,hcell⟩:=zp (n:=1) rfl (by omega) hown;have c0:=hcell 0 a rfl;clear hown hcell;go_wp2_with (first|(go_at_call 37;(with_reducible refine(CP.out _).mono ?_);rintro e w9 ⟨rfl,rfl⟩)|(go_at_call 34;(with_reducible refine(CK.out _).mono ?_);rintro e w9 ⟨rfl,rfl⟩))
 exact⟨rfl,rfl,hb1⟩
theorem QG(ws:List ByteArray)(a b:Nat)(t:ByteArray)(ao:Option Addr)(len cap:Nat)(w:World)(hW:DkW w)(hI:StrsIn w ao len ws)(hF:zB Cm.root.form ws=some ([a,b],t))(hn:1000000<b\/¬IsPr b):
 Calls Tryz.prog 20 #[.string Cm.root.name,.slice ao len cap] w fun e w'=>e=dkPanic 1/\Below w.heap.size w w':=by
 have CF:=zH (zy ⟨#[110,110]⟩ ws ao len cap w hI (by decide));rw[show(⟨#[110,110]⟩:ByteArray).data.toList=Cm.root.form from rfl,hF]at CF;unfold yv at CF;have hbd:=(zu hF).2.1;have ha:=hbd a (by simp);have hb:=hbd b (by simp);clear hbd;have CP:=zH fun W=>(ZR (a:Int) (b:Int) W (by exact hn.elim (fun h=>.inr (.inl (by omega))) (fun h=>.inr (.inr (by simpa using h))))).mono fun e w' h=>(⟨h.1,0,h.2.symm⟩:e=.returned (.tuple #[.int .i64 0,.int .i64 1])/\∃m,w'=W.drewN m)
 have CK:=zH fun W=>yF 1 W
 rw[if_neg (by decide)]at CK;clear hF hI;unfold Cm.name;go_enter Tryz.func20,Tryz.ntmps20
 go_wp2_with fail
 (with_reducible refine CF.out.mono ?_);rintro e w1 ⟨v,rfl,hown,hb1⟩
 obtain⟨g,cx,rfl,hg0,hg1,hcell⟩:=zp (n:=2) rfl (by omega) hown;have c0:=hcell 0 a rfl;have c1:=hcell 1 b rfl;clear hown hcell;go_wp2_with fail
 go_quiet ((go_at_call 38;(first|exact qf (fun W=>CP.out W)|exact yY (fun W=>CP.out W))))
 go_wp2_with (go_at_call 34;(with_reducible refine(CK.out _).mono ?_);rintro e w9 ⟨rfl,rfl⟩)
 exact⟨rfl,rfl,zg hb1 nq⟩
theorem pZ(ws:List ByteArray)(a b:Nat)(t:ByteArray)(ao:Option Addr)(len cap:Nat)(w:World)(hW:DkW w)(hI:StrsIn w ao len ws)(hF:zB Cm.root.form ws=some ([a,b],t))(hp:IsPr b)(hn:b<=1000000)(hr:YG (a:Int) b):
 Calls Tryz.prog 20 #[.string Cm.root.name,.slice ao len cap] w fun e w'=>e=dkPanic 4/\Below w.heap.size w w':=by
 have CF:=zH (zy ⟨#[110,110]⟩ ws ao len cap w hI (by decide));rw[show(⟨#[110,110]⟩:ByteArray).data.toList=Cm.root.form from rfl,hF]at CF;unfold yv at CF;have hbd:=(zu hF).2.1;have ha:=hbd a (by simp);have hb:=hbd b (by simp);clear hbd;have CP:=zH fun W=>ZA (a:Int) b W (by omega) (by omega) hp hn 0 4 (zH (.inr ⟨rfl,rfl,hr⟩))
 have CK:=zH fun W=>yF 4 W
 rw[if_neg (by decide)]at CK;clear hF hI;unfold Cm.name;go_enter Tryz.func20,Tryz.ntmps20
 go_wp2_with fail
 (with_reducible refine CF.out.mono ?_);rintro e w1 ⟨v,rfl,hown,hb1⟩
 obtain⟨g,cx,rfl,hg0,hg1,hcell⟩:=zp (n:=2) rfl (by omega) hown;have c0:=hcell 0 a rfl;have c1:=hcell 1 b rfl;clear hown hcell;go_wp2_with fail
 go_quiet ((go_at_call 38;(first|exact qf (fun W=>CP.out W)|exact yY (fun W=>CP.out W))))
 go_wp2_with (go_at_call 34;(with_reducible refine(CK.out _).mono ?_);rintro e w9 ⟨rfl,rfl⟩)
 exact⟨rfl,rfl,zg hb1 nq⟩
theorem Zg(ws:List ByteArray)(a b:Nat)(t:ByteArray)(ao:Option Addr)(len cap:Nat)(w:World)(hW:DkW w)(hI:StrsIn w ao len ws)(hF:zB Cm.root.form ws=some ([a,b],t))(hp:IsPr b)(hn:b<=1000000)(x:Nat)(hr:YF (a:Int) b x):
 Calls Tryz.prog 20 #[.string Cm.root.name,.slice ao len cap] w (zq (yx [(x:Int)]) w):=by
 have CF:=zH (zy ⟨#[110,110]⟩ ws ao len cap w hI (by decide));rw[show(⟨#[110,110]⟩:ByteArray).data.toList=Cm.root.form from rfl,hF]at CF;unfold yv at CF;have hbd:=(zu hF).2.1;have ha:=hbd a (by simp);have hb:=hbd b (by simp);clear hbd;have CP:=zH fun W=>ZA (a:Int) b W (by omega) (by omega) hp hn (x:Int) 0 (zH (.inl ⟨x,rfl,rfl,hr⟩))
 have hx:=hr.1;obtain⟨R,hR⟩:∃R:Int,(x:Int)=R:=⟨_,rfl⟩
 have h64:QR [R]:=by intro z hz;rw[List.mem_singleton.1 hz];omega
 rw[hR]at CP ⊢;have CNu:Hid (∀W ao cap,Below w.heap.size w W->Reads W ao ([R].map (Value.int .i64))->Calls Tryz.prog 36 #[.slice ao 1 cap] W (zq (yx [R]) W)):=zH fun W ao cap hb hR=>ky [R] ao 1 cap W (hW.below hb) rfl (by omega) h64 hR
 unfold zq at CNu;have CK:=zH fun W=>yF 0 W
 rw[if_pos rfl]at CK;clear hr hx hR h64;clear hF hI;unfold Cm.name;go_enter Tryz.func20,Tryz.ntmps20
 go_wp2_with fail
 (with_reducible refine CF.out.mono ?_);rintro e w1 ⟨v,rfl,hown,hb1⟩
 obtain⟨g,cx,rfl,hg0,hg1,hcell⟩:=zp (n:=2) rfl (by omega) hown;have c0:=hcell 0 a rfl;have c1:=hcell 1 b rfl;clear hown hcell;go_wp2_with fail
 go_quiet ((go_at_call 38;(first|exact qf (fun W=>CP.out W)|exact yY (fun W=>CP.out W))))
 go_wp2_with (go_at_call 34;(with_reducible refine(CK.out _).mono ?_);rintro e w9 ⟨rfl,rfl⟩)
 have hb2:Below w.heap.size w ((w1.drewN nq).alloc (.cells #[.int .i64 R] 3)):=(zg hb1 nq).alloc hb1.size _
 (with_reducible refine(CNu.out _ _ _ hb2 (za6 w1 nq R)).mono ?_);rintro e w3 ⟨rfl,hb3⟩
 go_wp2_with fail
 go_ret
 exact⟨rfl,hb2.trans (hb3.mono hb2.size)⟩
theorem QH(ws:List ByteArray)(a:Nat)(t:ByteArray)(ao:Option Addr)(len cap:Nat)(w:World)(hW:DkW w)(hI:StrsIn w ao len ws)(hF:zB Cm.code.form ws=some ([a],t))(hn:65535<a):
 Calls Tryz.prog 20 #[.string Cm.code.name,.slice ao len cap] w fun e w'=>e=dkPanic 1/\Below w.heap.size w w':=by
 have CF:=zH (zy ⟨#[110]⟩ ws ao len cap w hI (by decide));rw[show(⟨#[110]⟩:ByteArray).data.toList=Cm.code.form from rfl,hF]at CF;unfold yv at CF;have hbd:=(zu hF).2.1;have ha:=hbd a (by simp);clear hbd;have d1:(65535:Int)<(a:Int):=by omega
 clear hF hI;unfold Cm.name;go_enter Tryz.func20,Tryz.ntmps20
 go_wp2_with fail
 (with_reducible refine CF.out.mono ?_);rintro e w1 ⟨v,rfl,hown,hb1⟩
 obtain⟨g,cx,rfl,hg0,hg1,hcell⟩:=zp (n:=1) rfl (by omega) hown;have c0:=hcell 0 a rfl;clear hown hcell;go_wp2_with fail
 exact⟨rfl,rfl,hb1⟩
theorem QI(ws:List ByteArray)(a:Nat)(t:ByteArray)(ao:Option Addr)(len cap:Nat)(w:World)(hW:DkW w)(hI:StrsIn w ao len ws)(hF:zB Cm.code.form ws=some ([a],t))(hn:2047<a)(hn2:a<=65535):
 Calls Tryz.prog 20 #[.string Cm.code.name,.slice ao len cap] w fun e w'=>e=dkPanic 1/\Below w.heap.size w w':=by
 have CF:=zH (zy ⟨#[110]⟩ ws ao len cap w hI (by decide));rw[show(⟨#[110]⟩:ByteArray).data.toList=Cm.code.form from rfl,hF]at CF;unfold yv at CF;have hbd:=(zu hF).2.1;have ha:=hbd a (by simp);clear hbd;have d1:¬(65535:Int)<(a:Int):=by omega
 have w1':IntKind.u16.wrap (a:Int)=(a:Int):=IntWalk.u16_in _ (by omega);have CP:=zH fun W=>Z6 a W (by omega)
 have CK:=zH fun W=>yF 1 W
 rw[if_neg (by decide)]at CK;clear hF hI;unfold Cm.name;go_enter Tryz.func20,Tryz.ntmps20
 go_wp2_with fail
 (with_reducible refine CF.out.mono ?_);rintro e w1 ⟨v,rfl,hown,hb1⟩
 obtain⟨g,cx,rfl,hg0,hg1,hcell⟩:=zp (n:=1) rfl (by omega) hown;have c0:=hcell 0 a rfl;clear hown hcell;go_wp2_with (first|(go_at_call 39;(with_reducible refine(CP.out _).mono ?_);rintro e w9 ⟨rfl,rfl⟩)|(go_at_call 34;(with_reducible refine(CK.out _).mono ?_);rintro e w9 ⟨rfl,rfl⟩))
 exact⟨rfl,rfl,hb1⟩
theorem Zh(ws:List ByteArray)(a:Nat)(t:ByteArray)(ao:Option Addr)(len cap:Nat)(w:World)(hW:DkW w)(hI:StrsIn w ao len ws)(hF:zB Cm.code.form ws=some ([a],t))(hn:a<=2047):
 Calls Tryz.prog 20 #[.string Cm.code.name,.slice ao len cap] w (zq (yx [(jY a:Int)]) w):=by
 have CF:=zH (zy ⟨#[110]⟩ ws ao len cap w hI (by decide));rw[show(⟨#[110]⟩:ByteArray).data.toList=Cm.code.form from rfl,hF]at CF;unfold yv at CF;have hbd:=(zu hF).2.1;have ha:=hbd a (by simp);clear hbd;have d1:¬(65535:Int)<(a:Int):=by omega
 have w1':IntKind.u16.wrap (a:Int)=(a:Int):=IntWalk.u16_in _ (by omega);have CP:=zH fun W=>JX a W (by omega)
 have hx:=(zbm (d:=a) (by omega)).1;obtain⟨R,hR⟩:∃R:Int,(jY a:Int)=R:=⟨_,rfl⟩
 have h64:QR [R]:=by intro z hz;rw[List.mem_singleton.1 hz];omega
 have w2':IntKind.i64.wrap R=R:=IntWalk.i64_in _ (by omega);rw[hR]at CP ⊢;have CNu:Hid (∀W ao cap,Below w.heap.size w W->Reads W ao ([R].map (Value.int .i64))->Calls Tryz.prog 36 #[.slice ao 1 cap] W (zq (yx [R]) W)):=zH fun W ao cap hb hR=>ky [R] ao 1 cap W (hW.below hb) rfl (by omega) h64 hR
 unfold zq at CNu;have CK:=zH fun W=>yF 0 W
 rw[if_pos rfl]at CK;clear hx hR h64;clear hF hI;unfold Cm.name;go_enter Tryz.func20,Tryz.ntmps20
 go_wp2_with fail
 (with_reducible refine CF.out.mono ?_);rintro e w1 ⟨v,rfl,hown,hb1⟩
 obtain⟨g,cx,rfl,hg0,hg1,hcell⟩:=zp (n:=1) rfl (by omega) hown;have c0:=hcell 0 a rfl;clear hown hcell;go_wp2_with (first|(go_at_call 39;(with_reducible refine(CP.out _).mono ?_);rintro e w9 ⟨rfl,rfl⟩)|(go_at_call 34;(with_reducible refine(CK.out _).mono ?_);rintro e w9 ⟨rfl,rfl⟩))
 have hb2:Below w.heap.size w (w1.alloc (.cells #[.int .i64 R] 3)):=hb1.alloc hb1.size _
 (with_reducible refine(CNu.out _ _ _ hb2 (zck w1 R)).mono ?_);rintro e w3 ⟨rfl,hb3⟩
 go_wp2_with fail
 go_ret
 exact⟨rfl,hb2.trans (hb3.mono hb2.size)⟩
structure NotComp (c:ByteArray):Prop where
 gcd:(c.toList==[103,99,100])=false
 factor:(c.toList==[102,97,99,116,111,114])=false
 root:(c.toList==[114,111,111,116])=false
 code:(c.toList==[99,111,100,101])=false
theorem X5(c:ByteArray)(ao:Option Addr)(len cap:Nat)(w:World)(h:NotComp c):
 Calls Tryz.prog 20 #[.string c,.slice ao len cap] w fun e w'=>e=dkPanic 12/\Below w.heap.size w w':=by
 obtain⟨h1,h2,h3,h4⟩:=h;go_enter Tryz.func20,Tryz.ntmps20
 go_wp2_with fail
 exact⟨rfl,rfl,Below.refl _ _⟩
end Go.Proofs.YtmgfbmkfomebcaaGreatDoor
