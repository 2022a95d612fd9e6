/- (*desk).stored, command by command. (Printed by wip/tools/gen_desk3.py.) -/
import Derived.Test.YtmgfbmkfomebcaaGreatDoorDkM38
import Derived.Test.YtmgfbmkfomebcaaGreatDoorDkM29
import Derived.Test.YtmgfbmkfomebcaaGreatDoorDkM22
import Derived.StillTailTactics
import Derived.Deep.RegionHeld3
set_option linter.unusedVariables false
set_option linter.unusedSimpArgs false
set_option maxRecDepth 100000
set_option maxHeartbeats 8000000
namespace Go.Proofs.YtmgfbmkfomebcaaGreatDoor
open Go.RowKit
theorem j6(tx:ByteArray)(a mn:Int)(w:World):(Instr.field 70 (.agg #[.string tx,.int .i64 a,.int .i64 0,.int .i64 mn]) 1).run Tryz.prog w=.ok (.agg #[.int .i64 a,.int .i64 0]) w:=by kernel_rfl
theorem j7(tx:ByteArray)(a mn:Int)(w:World):(Instr.field 70 (.agg #[.string tx,.int .i64 a,.int .i64 0,.int .i64 mn]) 2).run Tryz.prog w=.ok (.int .i64 mn) w:=by kernel_rfl
theorem jG(a b:Int)(w:World):(Instr.field 68 (.agg #[.int .i64 a,.int .i64 b]) 0).run Tryz.prog w=.ok (.int .i64 a) w:=by kernel_rfl
theorem YM{w:World}{base:Nat}{Av:Nat->Prop}{D:Nat}{s:DS}(h:HasDsk w base Av D s)(hW:DkW w)(hbs:8<=base)(ws:List ByteArray)(ao:Option Addr)(len cap:Nat)(hI:StrsIn w ao len ws)(hF:zB Cm.put.form ws=none):
 Calls Tryz.prog 19 #[.pointer (some ⟨D,0,none⟩),.string Cm.put.name,.slice ao len cap] w (zA base Av D s 12 w):=by
 have CF:=zH (zy ⟨#[110,119]⟩ ws ao len cap w hI (by decide));rw[show(⟨#[110,119]⟩:ByteArray).data.toList=Cm.put.form from rfl,hF]at CF;unfold yv at CF;clear hF hI;unfold Cm.name zA;go_enter Tryz.func19,Tryz.ntmps19
 go_wp2_with fail
 (with_reducible refine CF.out.mono ?_);rintro e w1 ⟨rfl,hb1⟩
 exact⟨rfl,rfl,h.below hb1,h.kept hb1⟩
theorem ZS{w:World}{base:Nat}{Av:Nat->Prop}{D:Nat}{s:DS}(h:HasDsk w base Av D s)(hW:DkW w)(hbs:8<=base)(ws:List ByteArray)(ao:Option Addr)(len cap:Nat)(hI:StrsIn w ao len ws)(hF:zB Cm.torn.form ws=none):
 Calls Tryz.prog 19 #[.pointer (some ⟨D,0,none⟩),.string Cm.torn.name,.slice ao len cap] w (zA base Av D s 12 w):=by
 have CF:=zH (zy ⟨#[110,110,119]⟩ ws ao len cap w hI (by decide));rw[show(⟨#[110,110,119]⟩:ByteArray).data.toList=Cm.torn.form from rfl,hF]at CF;unfold yv at CF;clear hF hI;unfold Cm.name zA;go_enter Tryz.func19,Tryz.ntmps19
 go_wp2_with fail
 (with_reducible refine CF.out.mono ?_);rintro e w1 ⟨rfl,hb1⟩
 exact⟨rfl,rfl,h.below hb1,h.kept hb1⟩
theorem YN{w:World}{base:Nat}{Av:Nat->Prop}{D:Nat}{s:DS}(h:HasDsk w base Av D s)(hW:DkW w)(hbs:8<=base)(ws:List ByteArray)(ao:Option Addr)(len cap:Nat)(hI:StrsIn w ao len ws)(hF:zB Cm.get.form ws=none):
 Calls Tryz.prog 19 #[.pointer (some ⟨D,0,none⟩),.string Cm.get.name,.slice ao len cap] w (zA base Av D s 12 w):=by
 have CF:=zH (zy ⟨#[110]⟩ ws ao len cap w hI (by decide));rw[show(⟨#[110]⟩:ByteArray).data.toList=Cm.get.form from rfl,hF]at CF;unfold yv at CF;clear hF hI;unfold Cm.name zA;go_enter Tryz.func19,Tryz.ntmps19
 go_wp2_with fail
 (with_reducible refine CF.out.mono ?_);rintro e w1 ⟨rfl,hb1⟩
 exact⟨rfl,rfl,h.below hb1,h.kept hb1⟩
theorem Q2{w:World}{base:Nat}{Av:Nat->Prop}{D:Nat}{s:DS}(h:HasDsk w base Av D s)(hW:DkW w)(hbs:8<=base)(ws:List ByteArray)(ao:Option Addr)(len cap:Nat)(hI:StrsIn w ao len ws)(hF:zB Cm.scrub.form ws=none):
 Calls Tryz.prog 19 #[.pointer (some ⟨D,0,none⟩),.string Cm.scrub.name,.slice ao len cap] w (zA base Av D s 12 w):=by
 have CF:=zH (zy ⟨#[110]⟩ ws ao len cap w hI (by decide));rw[show(⟨#[110]⟩:ByteArray).data.toList=Cm.scrub.form from rfl,hF]at CF;unfold yv at CF;clear hF hI;unfold Cm.name zA;go_enter Tryz.func19,Tryz.ntmps19
 go_wp2_with fail
 (with_reducible refine CF.out.mono ?_);rintro e w1 ⟨rfl,hb1⟩
 exact⟨rfl,rfl,h.below hb1,h.kept hb1⟩
theorem ZT{w:World}{base:Nat}{Av:Nat->Prop}{D:Nat}{s:DS}(h:HasDsk w base Av D s)(hW:DkW w)(hbs:8<=base)(ws:List ByteArray)(ao:Option Addr)(len cap:Nat)(hI:StrsIn w ao len ws)(hF:zB Cm.down.form ws=none):
 Calls Tryz.prog 19 #[.pointer (some ⟨D,0,none⟩),.string Cm.down.name,.slice ao len cap] w (zA base Av D s 12 w):=by
 have CF:=zH (zy ⟨#[110]⟩ ws ao len cap w hI (by decide));rw[show(⟨#[110]⟩:ByteArray).data.toList=Cm.down.form from rfl,hF]at CF;unfold yv at CF;clear hF hI;unfold Cm.name zA;go_enter Tryz.func19,Tryz.ntmps19
 go_wp2_with fail
 (with_reducible refine CF.out.mono ?_);rintro e w1 ⟨rfl,hb1⟩
 exact⟨rfl,rfl,h.below hb1,h.kept hb1⟩
theorem XU{w:World}{base:Nat}{Av:Nat->Prop}{D:Nat}{s:DS}(h:HasDsk w base Av D s)(hW:DkW w)(hbs:8<=base)(ws:List ByteArray)(ao:Option Addr)(len cap:Nat)(hI:StrsIn w ao len ws)(hF:zB Cm.up.form ws=none):
 Calls Tryz.prog 19 #[.pointer (some ⟨D,0,none⟩),.string Cm.up.name,.slice ao len cap] w (zA base Av D s 12 w):=by
 have CF:=zH (zy ⟨#[110]⟩ ws ao len cap w hI (by decide));rw[show(⟨#[110]⟩:ByteArray).data.toList=Cm.up.form from rfl,hF]at CF;unfold yv at CF;clear hF hI;unfold Cm.name zA;go_enter Tryz.func19,Tryz.ntmps19
 go_wp2_with fail
 (with_reducible refine CF.out.mono ?_);rintro e w1 ⟨rfl,hb1⟩
 exact⟨rfl,rfl,h.below hb1,h.kept hb1⟩
theorem ZU{w:World}{base:Nat}{Av:Nat->Prop}{D:Nat}{s:DS}(h:HasDsk w base Av D s)(hW:DkW w)(hbs:8<=base)(ws:List ByteArray)(ao:Option Addr)(len cap:Nat)(hI:StrsIn w ao len ws)(hF:zB Cm.lose.form ws=none):
 Calls Tryz.prog 19 #[.pointer (some ⟨D,0,none⟩),.string Cm.lose.name,.slice ao len cap] w (zA base Av D s 12 w):=by
 have CF:=zH (zy ⟨#[110]⟩ ws ao len cap w hI (by decide));rw[show(⟨#[110]⟩:ByteArray).data.toList=Cm.lose.form from rfl,hF]at CF;unfold yv at CF;clear hF hI;unfold Cm.name zA;go_enter Tryz.func19,Tryz.ntmps19
 go_wp2_with fail
 (with_reducible refine CF.out.mono ?_);rintro e w1 ⟨rfl,hb1⟩
 exact⟨rfl,rfl,h.below hb1,h.kept hb1⟩
theorem YO{w:World}{base:Nat}{Av:Nat->Prop}{D:Nat}{s:DS}(h:HasDsk w base Av D s)(hW:DkW w)(hbs:8<=base)(ws:List ByteArray)(ao:Option Addr)(len cap:Nat)(hI:StrsIn w ao len ws)(hF:zB Cm.rot.form ws=none):
 Calls Tryz.prog 19 #[.pointer (some ⟨D,0,none⟩),.string Cm.rot.name,.slice ao len cap] w (zA base Av D s 12 w):=by
 have CF:=zH (zy ⟨#[110,110]⟩ ws ao len cap w hI (by decide));rw[show(⟨#[110,110]⟩:ByteArray).data.toList=Cm.rot.form from rfl,hF]at CF;unfold yv at CF;clear hF hI;unfold Cm.name zA;go_enter Tryz.func19,Tryz.ntmps19
 go_wp2_with fail
 (with_reducible refine CF.out.mono ?_);rintro e w1 ⟨rfl,hb1⟩
 exact⟨rfl,rfl,h.below hb1,h.kept hb1⟩
theorem YP{w:World}{base:Nat}{Av:Nat->Prop}{D:Nat}{s:DS}(h:HasDsk w base Av D s)(hW:DkW w)(hbs:8<=base)(ws:List ByteArray)(ao:Option Addr)(len cap:Nat)(hI:StrsIn w ao len ws)(hF:zB Cm.new.form ws=none):
 Calls Tryz.prog 19 #[.pointer (some ⟨D,0,none⟩),.string Cm.new.name,.slice ao len cap] w (zA base Av D s 12 w):=by
 have CF:=zH (zy ⟨#[110,110,110,110]⟩ ws ao len cap w hI (by decide));rw[show(⟨#[110,110,110,110]⟩:ByteArray).data.toList=Cm.new.form from rfl,hF]at CF;unfold yv at CF;clear hF hI;unfold Cm.name zA;go_enter Tryz.func19,Tryz.ntmps19
 go_wp2_with fail
 (with_reducible refine CF.out.mono ?_);rintro e w1 ⟨rfl,hb1⟩
 exact⟨rfl,rfl,h.below hb1,h.kept hb1⟩
theorem YQ{w:World}{base:Nat}{Av:Nat->Prop}{D:Nat}{s:DS}(h:HasDsk w base Av D s)(hW:DkW w)(hbs:8<=base)(ws:List ByteArray)(a:Nat)(t:ByteArray)(ao:Option Addr)(len cap:Nat)(hI:StrsIn w ao len ws)(hF:zB Cm.put.form ws=some ([a],t)){st':St}{tl:Tl}{E:Nat}(hR:doneF s 1 (a:Int) 0 t=(st',tl,E))(hE:E≠0):
 Calls Tryz.prog 19 #[.pointer (some ⟨D,0,none⟩),.string Cm.put.name,.slice ao len cap] w (zA base Av D {s with st:=st'} E w):=by
 have ht:t.size<=9223372036854775807:=yt hI (zu hF).2.2;have CF:=zH (zy ⟨#[110,119]⟩ ws ao len cap w hI (by decide));rw[show(⟨#[110,119]⟩:ByteArray).data.toList=Cm.put.form from rfl,hF]at CF;unfold yv at CF;clear hF hI;unfold zA;unfold Cm.name;go_enter Tryz.func19,Tryz.ntmps19
 go_wp2_with fail
 (with_reducible refine CF.out.mono ?_);rintro e w1 ⟨v,rfl,hown,hb1⟩
 obtain⟨g,cx,rfl,hg0,hg1,hcell⟩:=zp (n:=1) rfl (by omega) hown;have c0:=hcell 0 a rfl;clear hown hcell CF;have CD:=zH (vQ h hb1 1 (a:Int) 0 t ht hR hE);clear hR hE;go_wp2_with (go_at_call 33;(with_reducible refine(CD.out _ (by first|exact Below.refl _ _|exact zb (Below.refl _ _))).mono ?_);rintro e w2 ⟨rfl,hd2,hk2⟩)
 exact⟨rfl,rfl,hd2,hk2⟩
theorem XV{w:World}{base:Nat}{Av:Nat->Prop}{D:Nat}{s:DS}(h:HasDsk w base Av D s)(hW:DkW w)(hbs:8<=base)(ws:List ByteArray)(a:Nat)(t:ByteArray)(ao:Option Addr)(len cap:Nat)(hI:StrsIn w ao len ws)(hF:zB Cm.put.form ws=some ([a],t)){st':St}{tl:Tl}(hR:doneF s 1 (a:Int) 0 t=(st',tl,0)):
 Calls Tryz.prog 19 #[.pointer (some ⟨D,0,none⟩),.string Cm.put.name,.slice ao len cap] w (yy base Av D (yk s 1 a 0 t) w):=by
 have ht:t.size<=9223372036854775807:=yt hI (zu hF).2.2;have CF:=zH (zy ⟨#[110,119]⟩ ws ao len cap w hI (by decide));rw[show(⟨#[110,119]⟩:ByteArray).data.toList=Cm.put.form from rfl,hF]at CF;unfold yv at CF;clear hF hI;have hQ:yk s 1 a 0 t=({s with st:=st'},zS (tl.at':Int)):=by
  have hR':doF s.n s.k s.wr s.r s.st ((1:Nat):Int) ((a:Nat):Int) ((0:Nat):Int) t=(st',tl,0):=hR;unfold yk yq;rw[hR'];rfl
 have hT:=qY h 1 (a:Int) 0 t;rw[hR]at hT;have hTa:=hT.a;have hTm:=hT.m;have hTx:=hT.x;have hn10:=h.ok.1.2.2;obtain⟨tx,a',mn⟩:=tl;simp only at hTa hTm hTx hQ;have ff1:=j6;have ff2:=j7;have ff3:=jG;have CI:Hid (∀W,DkW W->Calls Tryz.prog 16 #[.int .i64 (a':Int)] W (zq (zS (a':Int)) W)):=zH fun W hw=>qa (a':Int) (by omega) (by omega) W hw
 unfold zq at CI;have hSz:=ya (a':Int) (by omega) (by omega);obtain⟨S,hS⟩:∃S,zS (a':Int)=S:=⟨_,rfl⟩
 rw[hS]at CI hQ hSz;rw[hQ];unfold yy;clear hQ hT hS;unfold Cm.name;go_enter Tryz.func19,Tryz.ntmps19
 go_wp2_with fail
 (with_reducible refine CF.out.mono ?_);rintro e w1 ⟨v,rfl,hown,hb1⟩
 obtain⟨g,cx,rfl,hg0,hg1,hcell⟩:=zp (n:=1) rfl (by omega) hown;have c0:=hcell 0 a rfl;clear hown hcell CF;have CD:=zH (kW h hb1 1 (a:Int) 0 t ht hR);dsimp only[tellV]at CD;clear hR;go_wp2_with (first|(go_at_call 33;(with_reducible refine(CD.out _ (by first|exact Below.refl _ _|exact zb (Below.refl _ _))).mono ?_);rintro e w2 ⟨rfl,hd2,hk2,hg2⟩;have hW2:=zH (hW.later hk2.bel hbs);clear hg2)|(go_at_call 16;(with_reducible refine(CI.out _ hW2.out).mono ?_);rintro e w3 ⟨rfl,hb3⟩))
 go_ret2
 exact⟨rfl,hd2.below hb3,hk2.trans (hd2.kept hb3)⟩
theorem ZV{w:World}{base:Nat}{Av:Nat->Prop}{D:Nat}{s:DS}(h:HasDsk w base Av D s)(hW:DkW w)(hbs:8<=base)(ws:List ByteArray)(a b:Nat)(t:ByteArray)(ao:Option Addr)(len cap:Nat)(hI:StrsIn w ao len ws)(hF:zB Cm.torn.form ws=some ([a,b],t)){st':St}{tl:Tl}{E:Nat}(hR:doneF s 2 (a:Int) (b:Int) t=(st',tl,E))(hE:E≠0):
 Calls Tryz.prog 19 #[.pointer (some ⟨D,0,none⟩),.string Cm.torn.name,.slice ao len cap] w (zA base Av D {s with st:=st'} E w):=by
 have ht:t.size<=9223372036854775807:=yt hI (zu hF).2.2;have CF:=zH (zy ⟨#[110,110,119]⟩ ws ao len cap w hI (by decide));rw[show(⟨#[110,110,119]⟩:ByteArray).data.toList=Cm.torn.form from rfl,hF]at CF;unfold yv at CF;clear hF hI;unfold zA;unfold Cm.name;go_enter Tryz.func19,Tryz.ntmps19
 go_wp2_with fail
 (with_reducible refine CF.out.mono ?_);rintro e w1 ⟨v,rfl,hown,hb1⟩
 obtain⟨g,cx,rfl,hg0,hg1,hcell⟩:=zp (n:=2) rfl (by omega) hown;have c0:=hcell 0 a rfl;have c1:=hcell 1 b rfl;clear hown hcell CF;have CD:=zH (vQ h hb1 2 (a:Int) (b:Int) t ht hR hE);clear hR hE;go_wp2_with fail
 go_still_tail 9,(by kernel_rfl)
 change wpList _ _ _ _ _ (World.drew _);go_wp2_with fail
 (with_reducible refine(CD.out _ (by first|exact Below.refl _ _|exact zb (Below.refl _ _))).mono ?_);rintro e w2 ⟨rfl,hd2,hk2⟩
 exact⟨rfl,rfl,hd2,hk2⟩
theorem YR{w:World}{base:Nat}{Av:Nat->Prop}{D:Nat}{s:DS}(h:HasDsk w base Av D s)(hW:DkW w)(hbs:8<=base)(ws:List ByteArray)(a b:Nat)(t:ByteArray)(ao:Option Addr)(len cap:Nat)(hI:StrsIn w ao len ws)(hF:zB Cm.torn.form ws=some ([a,b],t)){st':St}{tl:Tl}(hR:doneF s 2 (a:Int) (b:Int) t=(st',tl,0)):
 Calls Tryz.prog 19 #[.pointer (some ⟨D,0,none⟩),.string Cm.torn.name,.slice ao len cap] w (yy base Av D (yk s 2 a b t) w):=by
 have ht:t.size<=9223372036854775807:=yt hI (zu hF).2.2;have CF:=zH (zy ⟨#[110,110,119]⟩ ws ao len cap w hI (by decide));rw[show(⟨#[110,110,119]⟩:ByteArray).data.toList=Cm.torn.form from rfl,hF]at CF;unfold yv at CF;clear hF hI;have hQ:yk s 2 a b t=({s with st:=st'},zS (tl.at':Int)):=by
  have hR':doF s.n s.k s.wr s.r s.st ((2:Nat):Int) ((a:Nat):Int) ((b:Nat):Int) t=(st',tl,0):=hR;unfold yk yq;rw[hR'];rfl
 have hT:=qY h 2 (a:Int) (b:Int) t;rw[hR]at hT;have hTa:=hT.a;have hTm:=hT.m;have hTx:=hT.x;have hn10:=h.ok.1.2.2;obtain⟨tx,a',mn⟩:=tl;simp only at hTa hTm hTx hQ;have ff1:=j6;have ff2:=j7;have ff3:=jG;have CI:Hid (∀W,DkW W->Calls Tryz.prog 16 #[.int .i64 (a':Int)] W (zq (zS (a':Int)) W)):=zH fun W hw=>qa (a':Int) (by omega) (by omega) W hw
 unfold zq at CI;have hSz:=ya (a':Int) (by omega) (by omega);obtain⟨S,hS⟩:∃S,zS (a':Int)=S:=⟨_,rfl⟩
 rw[hS]at CI hQ hSz;rw[hQ];unfold yy;clear hQ hT hS;unfold Cm.name;go_enter Tryz.func19,Tryz.ntmps19
 go_wp2_with fail
 (with_reducible refine CF.out.mono ?_);rintro e w1 ⟨v,rfl,hown,hb1⟩
 obtain⟨g,cx,rfl,hg0,hg1,hcell⟩:=zp (n:=2) rfl (by omega) hown;have c0:=hcell 0 a rfl;have c1:=hcell 1 b rfl;clear hown hcell CF;have CD:=zH (kW h hb1 2 (a:Int) (b:Int) t ht hR);dsimp only[tellV]at CD;clear hR;go_wp2_with fail
 go_still_tail 9,(by kernel_rfl)
 change wpList _ _ _ _ _ (World.drew _);go_wp2_with (first|(go_at_call 33;(with_reducible refine(CD.out _ (by first|exact Below.refl _ _|exact zb (Below.refl _ _))).mono ?_);rintro e w2 ⟨rfl,hd2,hk2,hg2⟩;have hW2:=zH (hW.later hk2.bel hbs);clear hg2)|(go_at_call 16;(with_reducible refine(CI.out _ hW2.out).mono ?_);rintro e w3 ⟨rfl,hb3⟩))
 go_ret2
 exact⟨rfl,hd2.below hb3,hk2.trans (hd2.kept hb3)⟩
theorem YS{w:World}{base:Nat}{Av:Nat->Prop}{D:Nat}{s:DS}(h:HasDsk w base Av D s)(hW:DkW w)(hbs:8<=base)(ws:List ByteArray)(a:Nat)(t:ByteArray)(ao:Option Addr)(len cap:Nat)(hI:StrsIn w ao len ws)(hF:zB Cm.get.form ws=some ([a],t)){st':St}{tl:Tl}{E:Nat}(hR:doneF s 3 (a:Int) 0 ⟨#[]⟩=(st',tl,E))(hE:E≠0):
 Calls Tryz.prog 19 #[.pointer (some ⟨D,0,none⟩),.string Cm.get.name,.slice ao len cap] w (zA base Av D {s with st:=st'} E w):=by
 have ht:t.size<=9223372036854775807:=yt hI (zu hF).2.2;have CF:=zH (zy ⟨#[110]⟩ ws ao len cap w hI (by decide));rw[show(⟨#[110]⟩:ByteArray).data.toList=Cm.get.form from rfl,hF]at CF;unfold yv at CF;clear hF hI;unfold zA;unfold Cm.name;go_enter Tryz.func19,Tryz.ntmps19
 go_wp2_with fail
 (with_reducible refine CF.out.mono ?_);rintro e w1 ⟨v,rfl,hown,hb1⟩
 obtain⟨g,cx,rfl,hg0,hg1,hcell⟩:=zp (n:=1) rfl (by omega) hown;have c0:=hcell 0 a rfl;clear hown hcell CF;have CD:=zH (vQ h hb1 3 (a:Int) 0 ⟨#[]⟩ (Nat.zero_le _) hR hE);clear hR hE;go_wp2_with (go_at_call 33;(with_reducible refine(CD.out _ (by first|exact Below.refl _ _|exact zb (Below.refl _ _))).mono ?_);rintro e w2 ⟨rfl,hd2,hk2⟩)
 exact⟨rfl,rfl,hd2,hk2⟩
theorem XX{w:World}{base:Nat}{Av:Nat->Prop}{D:Nat}{s:DS}(h:HasDsk w base Av D s)(hW:DkW w)(hbs:8<=base)(ws:List ByteArray)(a:Nat)(t:ByteArray)(ao:Option Addr)(len cap:Nat)(hI:StrsIn w ao len ws)(hF:zB Cm.get.form ws=some ([a],t)){st':St}{tl:Tl}(hR:doneF s 3 (a:Int) 0 ⟨#[]⟩=(st',tl,0)):
 Calls Tryz.prog 19 #[.pointer (some ⟨D,0,none⟩),.string Cm.get.name,.slice ao len cap] w (yy base Av D (yk s 3 a 0 ByteArray.empty) w):=by
 have ht:t.size<=9223372036854775807:=yt hI (zu hF).2.2;have CF:=zH (zy ⟨#[110]⟩ ws ao len cap w hI (by decide));rw[show(⟨#[110]⟩:ByteArray).data.toList=Cm.get.form from rfl,hF]at CF;unfold yv at CF;clear hF hI;have hQ:yk s 3 a 0 ByteArray.empty=({s with st:=st'},zS (tl.at':Int)++dkSp++tl.tx):=by
  have hR':doF s.n s.k s.wr s.r s.st ((3:Nat):Int) ((a:Nat):Int) ((0:Nat):Int) ByteArray.empty=(st',tl,0):=hR;unfold yk yq;rw[hR'];rfl
 have hT:=qY h 3 (a:Int) 0 ⟨#[]⟩;rw[hR]at hT;have hTa:=hT.a;have hTm:=hT.m;have hTx:=hT.x;have hn10:=h.ok.1.2.2;obtain⟨tx,a',mn⟩:=tl;simp only at hTa hTm hTx hQ;have CI:Hid (∀W,DkW W->Calls Tryz.prog 16 #[.int .i64 (a':Int)] W (zq (zS (a':Int)) W)):=zH fun W hw=>qa (a':Int) (by omega) (by omega) W hw
 unfold zq at CI;have hSz:=ya (a':Int) (by omega) (by omega);obtain⟨S,hS⟩:∃S,zS (a':Int)=S:=⟨_,rfl⟩
 rw[hS]at CI hQ hSz;rw[hQ];unfold yy;clear hQ hT hS;unfold Cm.name;go_enter Tryz.func19,Tryz.ntmps19
 go_wp2_with fail
 (with_reducible refine CF.out.mono ?_);rintro e w1 ⟨v,rfl,hown,hb1⟩
 obtain⟨g,cx,rfl,hg0,hg1,hcell⟩:=zp (n:=1) rfl (by omega) hown;have c0:=hcell 0 a rfl;clear hown hcell CF;have CD:=zH (kW h hb1 3 (a:Int) 0 ⟨#[]⟩ (Nat.zero_le _) hR);dsimp only[tellV]at CD;clear hR;go_wp2_with (go_at_call 33;(with_reducible refine(CD.out _ (by first|exact Below.refl _ _|exact zb (Below.refl _ _))).mono ?_);rintro e w2 ⟨rfl,hd2,hk2,hg2⟩;have hW2:=zH (hW.later hk2.bel hbs);clear hg2)
 have hh5:=heap_alloc_new w2 (.cells #[.string tx,.int .i64 (a':Int),.int .i64 0,.int .i64 (mn:Int)] 70);obtain⟨W5,hW5⟩:∃W5,w2.alloc (.cells #[.string tx,.int .i64 (a':Int),.int .i64 0,.int .i64 (mn:Int)] 70)=W5:=⟨_,rfl⟩
 have hb5:Below w2.heap.size w2 W5:=by rw[<-hW5];exact zc _ _
 have hlt5:w2.heap.size<W5.heap.size:=by rw[<-hW5];simp
 rw[hW5]at hh5;rw[hW5];obtain⟨y0,y1⟩:=zc2 hh5;have hW5':=zH (hW2.out.below hb5);have HB5:=zH hb5;have HY:=zH hlt5;have hz1:¬(9223372036854775807<S.size+1):=by omega
 have hz2:¬(9223372036854775807<S.size+1+tx.size):=by omega
 clear hb5 hlt5 hW5 hh5
 go_region_held3 (fun w'=>w'.cell? ⟨w2.heap.size,0,none⟩=some (.string tx)/\w'.cell? ⟨w2.heap.size,1,none⟩=some (.int .i64 (a':Int))) (first|(with_reducible exact HKK.out)|go_keep)
  (first|(go_at_call 16;(with_reducible refine(CI.out _ (by first|exact hW5'.out|exact hW5'.out.below (zb (Below.refl _ _)))).mono ?_);rintro e w6 ⟨rfl,hb6⟩;have HB6:Hid (Below W5.heap.size W5 w6):=zH (by first|exact hb6|exact(zb (Below.refl _ _)).trans hb6);have HKK:Hid (w6.cell? ⟨w2.heap.size,0,none⟩=some (.string tx)/\w6.cell? ⟨w2.heap.size,1,none⟩=some (.int .i64 (a':Int))):=zH ⟨(HB6.out.cell (p:=⟨w2.heap.size,0,none⟩) HY.out).trans y0,(HB6.out.cell (p:=⟨w2.heap.size,1,none⟩) HY.out).trans y1⟩;clear hb6))
 all_goals
  go_wp2_with fail
  go_ret2
  have hb26:=HB5.out.trans (HB6.out.mono HB5.out.size);exact⟨rfl,hd2.below hb26,hk2.trans (hd2.kept hb26)⟩
theorem Q3{w:World}{base:Nat}{Av:Nat->Prop}{D:Nat}{s:DS}(h:HasDsk w base Av D s)(hW:DkW w)(hbs:8<=base)(ws:List ByteArray)(a:Nat)(t:ByteArray)(ao:Option Addr)(len cap:Nat)(hI:StrsIn w ao len ws)(hF:zB Cm.scrub.form ws=some ([a],t)){st':St}{tl:Tl}{E:Nat}(hR:doneF s 8 (a:Int) 0 ⟨#[]⟩=(st',tl,E))(hE:E≠0):
 Calls Tryz.prog 19 #[.pointer (some ⟨D,0,none⟩),.string Cm.scrub.name,.slice ao len cap] w (zA base Av D {s with st:=st'} E w):=by
 have ht:t.size<=9223372036854775807:=yt hI (zu hF).2.2;have CF:=zH (zy ⟨#[110]⟩ ws ao len cap w hI (by decide));rw[show(⟨#[110]⟩:ByteArray).data.toList=Cm.scrub.form from rfl,hF]at CF;unfold yv at CF;clear hF hI;unfold zA;unfold Cm.name;go_enter Tryz.func19,Tryz.ntmps19
 go_wp2_with fail
 (with_reducible refine CF.out.mono ?_);rintro e w1 ⟨v,rfl,hown,hb1⟩
 obtain⟨g,cx,rfl,hg0,hg1,hcell⟩:=zp (n:=1) rfl (by omega) hown;have c0:=hcell 0 a rfl;clear hown hcell CF;have CD:=zH (vQ h hb1 8 (a:Int) 0 ⟨#[]⟩ (Nat.zero_le _) hR hE);clear hR hE;go_wp2_with (go_at_call 33;(with_reducible refine(CD.out _ (by first|exact Below.refl _ _|exact zb (Below.refl _ _))).mono ?_);rintro e w2 ⟨rfl,hd2,hk2⟩)
 exact⟨rfl,rfl,hd2,hk2⟩
theorem ZW{w:World}{base:Nat}{Av:Nat->Prop}{D:Nat}{s:DS}(h:HasDsk w base Av D s)(hW:DkW w)(hbs:8<=base)(ws:List ByteArray)(a:Nat)(t:ByteArray)(ao:Option Addr)(len cap:Nat)(hI:StrsIn w ao len ws)(hF:zB Cm.scrub.form ws=some ([a],t)){st':St}{tl:Tl}(hR:doneF s 8 (a:Int) 0 ⟨#[]⟩=(st',tl,0)):
 Calls Tryz.prog 19 #[.pointer (some ⟨D,0,none⟩),.string Cm.scrub.name,.slice ao len cap] w (yy base Av D (yk s 8 a 0 ByteArray.empty) w):=by
 have ht:t.size<=9223372036854775807:=yt hI (zu hF).2.2;have CF:=zH (zy ⟨#[110]⟩ ws ao len cap w hI (by decide));rw[show(⟨#[110]⟩:ByteArray).data.toList=Cm.scrub.form from rfl,hF]at CF;unfold yv at CF;clear hF hI;have hQ:yk s 8 a 0 ByteArray.empty=({s with st:=st'},zS (tl.mn:Int)):=by
  have hR':doF s.n s.k s.wr s.r s.st ((8:Nat):Int) ((a:Nat):Int) ((0:Nat):Int) ByteArray.empty=(st',tl,0):=hR;unfold yk yq;rw[hR'];rfl
 have hT:=qY h 8 (a:Int) 0 ⟨#[]⟩;rw[hR]at hT;have hTa:=hT.a;have hTm:=hT.m;have hTx:=hT.x;have hn10:=h.ok.1.2.2;obtain⟨tx,a',mn⟩:=tl;simp only at hTa hTm hTx hQ;have ff1:=j6;have ff2:=j7;have ff3:=jG;have CI:Hid (∀W,DkW W->Calls Tryz.prog 16 #[.int .i64 (mn:Int)] W (zq (zS (mn:Int)) W)):=zH fun W hw=>qa (mn:Int) (by omega) (by omega) W hw
 unfold zq at CI;have hSz:=ya (mn:Int) (by omega) (by omega);obtain⟨S,hS⟩:∃S,zS (mn:Int)=S:=⟨_,rfl⟩
 rw[hS]at CI hQ hSz;rw[hQ];unfold yy;clear hQ hT hS;unfold Cm.name;go_enter Tryz.func19,Tryz.ntmps19
 go_wp2_with fail
 (with_reducible refine CF.out.mono ?_);rintro e w1 ⟨v,rfl,hown,hb1⟩
 obtain⟨g,cx,rfl,hg0,hg1,hcell⟩:=zp (n:=1) rfl (by omega) hown;have c0:=hcell 0 a rfl;clear hown hcell CF;have CD:=zH (kW h hb1 8 (a:Int) 0 ⟨#[]⟩ (Nat.zero_le _) hR);dsimp only[tellV]at CD;clear hR;go_wp2_with (first|(go_at_call 33;(with_reducible refine(CD.out _ (by first|exact Below.refl _ _|exact zb (Below.refl _ _))).mono ?_);rintro e w2 ⟨rfl,hd2,hk2,hg2⟩;have hW2:=zH (hW.later hk2.bel hbs);clear hg2)|(go_at_call 16;(with_reducible refine(CI.out _ hW2.out).mono ?_);rintro e w3 ⟨rfl,hb3⟩))
 go_ret2
 exact⟨rfl,hd2.below hb3,hk2.trans (hd2.kept hb3)⟩
theorem ZX{w:World}{base:Nat}{Av:Nat->Prop}{D:Nat}{s:DS}(h:HasDsk w base Av D s)(hW:DkW w)(hbs:8<=base)(ws:List ByteArray)(a:Nat)(t:ByteArray)(ao:Option Addr)(len cap:Nat)(hI:StrsIn w ao len ws)(hF:zB Cm.down.form ws=some ([a],t)){st':St}{tl:Tl}{E:Nat}(hR:doneF s 4 0 (a:Int) ⟨#[]⟩=(st',tl,E))(hE:E≠0):
 Calls Tryz.prog 19 #[.pointer (some ⟨D,0,none⟩),.string Cm.down.name,.slice ao len cap] w (zA base Av D {s with st:=st'} E w):=by
 have ht:t.size<=9223372036854775807:=yt hI (zu hF).2.2;have CF:=zH (zy ⟨#[110]⟩ ws ao len cap w hI (by decide));rw[show(⟨#[110]⟩:ByteArray).data.toList=Cm.down.form from rfl,hF]at CF;unfold yv at CF;clear hF hI;unfold zA;have hmm:=@run_makeMap Tryz.prog;unfold Cm.name;go_enter Tryz.func19,Tryz.ntmps19
 go_wp2_with fail
 (with_reducible refine CF.out.mono ?_);rintro e w1 ⟨v,rfl,hown,hb1⟩
 obtain⟨g,cx,rfl,hg0,hg1,hcell⟩:=zp (n:=1) rfl (by omega) hown;have c0:=hcell 0 a rfl;clear hown hcell CF;obtain⟨v1,v2,Wm,r1,r2,r3,⟨l1,l2,l3⟩,hbm⟩:=jt Tryz.underlying61 Tryz.underlying9 Tryz.zeroValue3 w1;have hb1m:Below w.heap.size w Wm:=hb1.trans (hbm.mono hb1.size);have hg1m:g<Wm.heap.size:=Nat.lt_of_lt_of_le hg1 hbm.size;have c0m:=(hbm.cell (p:=⟨g,0,none⟩) hg1).trans c0;unfold Cm.name at l1 l2 l3;have CD:=zH (vQ h hb1m 4 0 (a:Int) ⟨#[]⟩ (Nat.zero_le _) hR hE);clear hR hE;go_wp2_with (go_at_call 33;(with_reducible refine(CD.out _ (by first|exact Below.refl _ _|exact zb (Below.refl _ _))).mono ?_);rintro e w2 ⟨rfl,hd2,hk2⟩)
 exact⟨rfl,rfl,hd2,hk2⟩
theorem YT{w:World}{base:Nat}{Av:Nat->Prop}{D:Nat}{s:DS}(h:HasDsk w base Av D s)(hW:DkW w)(hbs:8<=base)(ws:List ByteArray)(a:Nat)(t:ByteArray)(ao:Option Addr)(len cap:Nat)(hI:StrsIn w ao len ws)(hF:zB Cm.down.form ws=some ([a],t)){st':St}{tl:Tl}(hR:doneF s 4 0 (a:Int) ⟨#[]⟩=(st',tl,0)):
 Calls Tryz.prog 19 #[.pointer (some ⟨D,0,none⟩),.string Cm.down.name,.slice ao len cap] w (yy base Av D (yk s 4 0 a ByteArray.empty) w):=by
 have ht:t.size<=9223372036854775807:=yt hI (zu hF).2.2;have CF:=zH (zy ⟨#[110]⟩ ws ao len cap w hI (by decide));rw[show(⟨#[110]⟩:ByteArray).data.toList=Cm.down.form from rfl,hF]at CF;unfold yv at CF;clear hF hI;have hQ:yk s 4 0 a ByteArray.empty=({s with st:=st'},dkOK):=by
  have hR':doF s.n s.k s.wr s.r s.st ((4:Nat):Int) ((0:Nat):Int) ((a:Nat):Int) ByteArray.empty=(st',tl,0):=hR;unfold yk yq;rw[hR'];rfl
 have hT:=qY h 4 0 (a:Int) ⟨#[]⟩;rw[hR]at hT;have hTa:=hT.a;have hTm:=hT.m;have hTx:=hT.x;have hn10:=h.ok.1.2.2;obtain⟨tx,a',mn⟩:=tl;simp only at hTa hTm hTx hQ;rw[hQ];unfold yy;clear hQ hT;have hmm:=@run_makeMap Tryz.prog;unfold Cm.name;go_enter Tryz.func19,Tryz.ntmps19
 go_wp2_with fail
 (with_reducible refine CF.out.mono ?_);rintro e w1 ⟨v,rfl,hown,hb1⟩
 obtain⟨g,cx,rfl,hg0,hg1,hcell⟩:=zp (n:=1) rfl (by omega) hown;have c0:=hcell 0 a rfl;clear hown hcell CF;obtain⟨v1,v2,Wm,r1,r2,r3,⟨l1,l2,l3⟩,hbm⟩:=jt Tryz.underlying61 Tryz.underlying9 Tryz.zeroValue3 w1;have hb1m:Below w.heap.size w Wm:=hb1.trans (hbm.mono hb1.size);have hg1m:g<Wm.heap.size:=Nat.lt_of_lt_of_le hg1 hbm.size;have c0m:=(hbm.cell (p:=⟨g,0,none⟩) hg1).trans c0;unfold Cm.name at l1 l2 l3;have CD:=zH (kW h hb1m 4 0 (a:Int) ⟨#[]⟩ (Nat.zero_le _) hR);dsimp only[tellV]at CD;clear hR;go_wp2_with (go_at_call 33;(with_reducible refine(CD.out _ (by first|exact Below.refl _ _|exact zb (Below.refl _ _))).mono ?_);rintro e w2 ⟨rfl,hd2,hk2,hg2⟩;have hW2:=zH (hW.later hk2.bel hbs);clear hg2)
 go_ret2
 exact⟨rfl,hd2,hk2⟩
theorem XY{w:World}{base:Nat}{Av:Nat->Prop}{D:Nat}{s:DS}(h:HasDsk w base Av D s)(hW:DkW w)(hbs:8<=base)(ws:List ByteArray)(a:Nat)(t:ByteArray)(ao:Option Addr)(len cap:Nat)(hI:StrsIn w ao len ws)(hF:zB Cm.up.form ws=some ([a],t)){st':St}{tl:Tl}{E:Nat}(hR:doneF s 5 0 (a:Int) ⟨#[]⟩=(st',tl,E))(hE:E≠0):
 Calls Tryz.prog 19 #[.pointer (some ⟨D,0,none⟩),.string Cm.up.name,.slice ao len cap] w (zA base Av D {s with st:=st'} E w):=by
 have ht:t.size<=9223372036854775807:=yt hI (zu hF).2.2;have CF:=zH (zy ⟨#[110]⟩ ws ao len cap w hI (by decide));rw[show(⟨#[110]⟩:ByteArray).data.toList=Cm.up.form from rfl,hF]at CF;unfold yv at CF;clear hF hI;unfold zA;have hmm:=@run_makeMap Tryz.prog;unfold Cm.name;go_enter Tryz.func19,Tryz.ntmps19
 go_wp2_with fail
 (with_reducible refine CF.out.mono ?_);rintro e w1 ⟨v,rfl,hown,hb1⟩
 obtain⟨g,cx,rfl,hg0,hg1,hcell⟩:=zp (n:=1) rfl (by omega) hown;have c0:=hcell 0 a rfl;clear hown hcell CF;obtain⟨v1,v2,Wm,r1,r2,r3,⟨l1,l2,l3⟩,hbm⟩:=jt Tryz.underlying61 Tryz.underlying9 Tryz.zeroValue3 w1;have hb1m:Below w.heap.size w Wm:=hb1.trans (hbm.mono hb1.size);have hg1m:g<Wm.heap.size:=Nat.lt_of_lt_of_le hg1 hbm.size;have c0m:=(hbm.cell (p:=⟨g,0,none⟩) hg1).trans c0;unfold Cm.name at l1 l2 l3;have CD:=zH (vQ h hb1m 5 0 (a:Int) ⟨#[]⟩ (Nat.zero_le _) hR hE);clear hR hE;go_wp2_with (go_at_call 33;(with_reducible refine(CD.out _ (by first|exact Below.refl _ _|exact zb (Below.refl _ _))).mono ?_);rintro e w2 ⟨rfl,hd2,hk2⟩)
 exact⟨rfl,rfl,hd2,hk2⟩
theorem Kr{w:World}{base:Nat}{Av:Nat->Prop}{D:Nat}{s:DS}(h:HasDsk w base Av D s)(hW:DkW w)(hbs:8<=base)(ws:List ByteArray)(a:Nat)(t:ByteArray)(ao:Option Addr)(len cap:Nat)(hI:StrsIn w ao len ws)(hF:zB Cm.up.form ws=some ([a],t)){st':St}{tl:Tl}(hR:doneF s 5 0 (a:Int) ⟨#[]⟩=(st',tl,0)):
 Calls Tryz.prog 19 #[.pointer (some ⟨D,0,none⟩),.string Cm.up.name,.slice ao len cap] w (yy base Av D (yk s 5 0 a ByteArray.empty) w):=by
 have ht:t.size<=9223372036854775807:=yt hI (zu hF).2.2;have CF:=zH (zy ⟨#[110]⟩ ws ao len cap w hI (by decide));rw[show(⟨#[110]⟩:ByteArray).data.toList=Cm.up.form from rfl,hF]at CF;unfold yv at CF;clear hF hI;have hQ:yk s 5 0 a ByteArray.empty=({s with st:=st'},dkOK):=by
  have hR':doF s.n s.k s.wr s.r s.st ((5:Nat):Int) ((0:Nat):Int) ((a:Nat):Int) ByteArray.empty=(st',tl,0):=hR;unfold yk yq;rw[hR'];rfl
 have hT:=qY h 5 0 (a:Int) ⟨#[]⟩;rw[hR]at hT;have hTa:=hT.a;have hTm:=hT.m;have hTx:=hT.x;have hn10:=h.ok.1.2.2;obtain⟨tx,a',mn⟩:=tl;simp only at hTa hTm hTx hQ;rw[hQ];unfold yy;clear hQ hT;have hmm:=@run_makeMap Tryz.prog;unfold Cm.name;go_enter Tryz.func19,Tryz.ntmps19
 go_wp2_with fail
 (with_reducible refine CF.out.mono ?_);rintro e w1 ⟨v,rfl,hown,hb1⟩
 obtain⟨g,cx,rfl,hg0,hg1,hcell⟩:=zp (n:=1) rfl (by omega) hown;have c0:=hcell 0 a rfl;clear hown hcell CF;obtain⟨v1,v2,Wm,r1,r2,r3,⟨l1,l2,l3⟩,hbm⟩:=jt Tryz.underlying61 Tryz.underlying9 Tryz.zeroValue3 w1;have hb1m:Below w.heap.size w Wm:=hb1.trans (hbm.mono hb1.size);have hg1m:g<Wm.heap.size:=Nat.lt_of_lt_of_le hg1 hbm.size;have c0m:=(hbm.cell (p:=⟨g,0,none⟩) hg1).trans c0;unfold Cm.name at l1 l2 l3;have CD:=zH (kW h hb1m 5 0 (a:Int) ⟨#[]⟩ (Nat.zero_le _) hR);dsimp only[tellV]at CD;clear hR;go_wp2_with (go_at_call 33;(with_reducible refine(CD.out _ (by first|exact Below.refl _ _|exact zb (Below.refl _ _))).mono ?_);rintro e w2 ⟨rfl,hd2,hk2,hg2⟩;have hW2:=zH (hW.later hk2.bel hbs);clear hg2)
 go_ret2
 exact⟨rfl,hd2,hk2⟩
theorem ZY{w:World}{base:Nat}{Av:Nat->Prop}{D:Nat}{s:DS}(h:HasDsk w base Av D s)(hW:DkW w)(hbs:8<=base)(ws:List ByteArray)(a:Nat)(t:ByteArray)(ao:Option Addr)(len cap:Nat)(hI:StrsIn w ao len ws)(hF:zB Cm.lose.form ws=some ([a],t)){st':St}{tl:Tl}{E:Nat}(hR:doneF s 6 0 (a:Int) ⟨#[]⟩=(st',tl,E))(hE:E≠0):
 Calls Tryz.prog 19 #[.pointer (some ⟨D,0,none⟩),.string Cm.lose.name,.slice ao len cap] w (zA base Av D {s with st:=st'} E w):=by
 have ht:t.size<=9223372036854775807:=yt hI (zu hF).2.2;have CF:=zH (zy ⟨#[110]⟩ ws ao len cap w hI (by decide));rw[show(⟨#[110]⟩:ByteArray).data.toList=Cm.lose.form from rfl,hF]at CF;unfold yv at CF;clear hF hI;unfold zA;have hmm:=@run_makeMap Tryz.prog;unfold Cm.name;go_enter Tryz.func19,Tryz.ntmps19
 go_wp2_with fail
 (with_reducible refine CF.out.mono ?_);rintro e w1 ⟨v,rfl,hown,hb1⟩
 obtain⟨g,cx,rfl,hg0,hg1,hcell⟩:=zp (n:=1) rfl (by omega) hown;have c0:=hcell 0 a rfl;clear hown hcell CF;obtain⟨v1,v2,Wm,r1,r2,r3,⟨l1,l2,l3⟩,hbm⟩:=jt Tryz.underlying61 Tryz.underlying9 Tryz.zeroValue3 w1;have hb1m:Below w.heap.size w Wm:=hb1.trans (hbm.mono hb1.size);have hg1m:g<Wm.heap.size:=Nat.lt_of_lt_of_le hg1 hbm.size;have c0m:=(hbm.cell (p:=⟨g,0,none⟩) hg1).trans c0;unfold Cm.name at l1 l2 l3;have CD:=zH (vQ h hb1m 6 0 (a:Int) ⟨#[]⟩ (Nat.zero_le _) hR hE);clear hR hE;go_wp2_with (go_at_call 33;(with_reducible refine(CD.out _ (by first|exact Below.refl _ _|exact zb (Below.refl _ _))).mono ?_);rintro e w2 ⟨rfl,hd2,hk2⟩)
 exact⟨rfl,rfl,hd2,hk2⟩
theorem YU{w:World}{base:Nat}{Av:Nat->Prop}{D:Nat}{s:DS}(h:HasDsk w base Av D s)(hW:DkW w)(hbs:8<=base)(ws:List ByteArray)(a:Nat)(t:ByteArray)(ao:Option Addr)(len cap:Nat)(hI:StrsIn w ao len ws)(hF:zB Cm.lose.form ws=some ([a],t)){st':St}{tl:Tl}(hR:doneF s 6 0 (a:Int) ⟨#[]⟩=(st',tl,0)):
 Calls Tryz.prog 19 #[.pointer (some ⟨D,0,none⟩),.string Cm.lose.name,.slice ao len cap] w (yy base Av D (yk s 6 0 a ByteArray.empty) w):=by
 have ht:t.size<=9223372036854775807:=yt hI (zu hF).2.2;have CF:=zH (zy ⟨#[110]⟩ ws ao len cap w hI (by decide));rw[show(⟨#[110]⟩:ByteArray).data.toList=Cm.lose.form from rfl,hF]at CF;unfold yv at CF;clear hF hI;have hQ:yk s 6 0 a ByteArray.empty=({s with st:=st'},dkOK):=by
  have hR':doF s.n s.k s.wr s.r s.st ((6:Nat):Int) ((0:Nat):Int) ((a:Nat):Int) ByteArray.empty=(st',tl,0):=hR;unfold yk yq;rw[hR'];rfl
 have hT:=qY h 6 0 (a:Int) ⟨#[]⟩;rw[hR]at hT;have hTa:=hT.a;have hTm:=hT.m;have hTx:=hT.x;have hn10:=h.ok.1.2.2;obtain⟨tx,a',mn⟩:=tl;simp only at hTa hTm hTx hQ;rw[hQ];unfold yy;clear hQ hT;have hmm:=@run_makeMap Tryz.prog;unfold Cm.name;go_enter Tryz.func19,Tryz.ntmps19
 go_wp2_with fail
 (with_reducible refine CF.out.mono ?_);rintro e w1 ⟨v,rfl,hown,hb1⟩
 obtain⟨g,cx,rfl,hg0,hg1,hcell⟩:=zp (n:=1) rfl (by omega) hown;have c0:=hcell 0 a rfl;clear hown hcell CF;obtain⟨v1,v2,Wm,r1,r2,r3,⟨l1,l2,l3⟩,hbm⟩:=jt Tryz.underlying61 Tryz.underlying9 Tryz.zeroValue3 w1;have hb1m:Below w.heap.size w Wm:=hb1.trans (hbm.mono hb1.size);have hg1m:g<Wm.heap.size:=Nat.lt_of_lt_of_le hg1 hbm.size;have c0m:=(hbm.cell (p:=⟨g,0,none⟩) hg1).trans c0;unfold Cm.name at l1 l2 l3;have CD:=zH (kW h hb1m 6 0 (a:Int) ⟨#[]⟩ (Nat.zero_le _) hR);dsimp only[tellV]at CD;clear hR;go_wp2_with (go_at_call 33;(with_reducible refine(CD.out _ (by first|exact Below.refl _ _|exact zb (Below.refl _ _))).mono ?_);rintro e w2 ⟨rfl,hd2,hk2,hg2⟩;have hW2:=zH (hW.later hk2.bel hbs);clear hg2)
 go_ret2
 exact⟨rfl,hd2,hk2⟩
theorem YV{w:World}{base:Nat}{Av:Nat->Prop}{D:Nat}{s:DS}(h:HasDsk w base Av D s)(hW:DkW w)(hbs:8<=base)(ws:List ByteArray)(a b:Nat)(t:ByteArray)(ao:Option Addr)(len cap:Nat)(hI:StrsIn w ao len ws)(hF:zB Cm.rot.form ws=some ([a,b],t)){st':St}{tl:Tl}{E:Nat}(hR:doneF s 7 (b:Int) (a:Int) ⟨#[]⟩=(st',tl,E))(hE:E≠0):
 Calls Tryz.prog 19 #[.pointer (some ⟨D,0,none⟩),.string Cm.rot.name,.slice ao len cap] w (zA base Av D {s with st:=st'} E w):=by
 have ht:t.size<=9223372036854775807:=yt hI (zu hF).2.2;have CF:=zH (zy ⟨#[110,110]⟩ ws ao len cap w hI (by decide));rw[show(⟨#[110,110]⟩:ByteArray).data.toList=Cm.rot.form from rfl,hF]at CF;unfold yv at CF;clear hF hI;unfold zA;unfold Cm.name;go_enter Tryz.func19,Tryz.ntmps19
 go_wp2_with fail
 (with_reducible refine CF.out.mono ?_);rintro e w1 ⟨v,rfl,hown,hb1⟩
 obtain⟨g,cx,rfl,hg0,hg1,hcell⟩:=zp (n:=2) rfl (by omega) hown;have c0:=hcell 0 a rfl;have c1:=hcell 1 b rfl;clear hown hcell CF;have CD:=zH (vQ h hb1 7 (b:Int) (a:Int) ⟨#[]⟩ (Nat.zero_le _) hR hE);clear hR hE;go_wp2_with fail
 go_still_tail 8,(by kernel_rfl)
 change wpList _ _ _ _ _ (World.drew _);go_wp2_with fail
 (with_reducible refine(CD.out _ (by first|exact Below.refl _ _|exact zb (Below.refl _ _))).mono ?_);rintro e w2 ⟨rfl,hd2,hk2⟩
 exact⟨rfl,rfl,hd2,hk2⟩
theorem XZ{w:World}{base:Nat}{Av:Nat->Prop}{D:Nat}{s:DS}(h:HasDsk w base Av D s)(hW:DkW w)(hbs:8<=base)(ws:List ByteArray)(a b:Nat)(t:ByteArray)(ao:Option Addr)(len cap:Nat)(hI:StrsIn w ao len ws)(hF:zB Cm.rot.form ws=some ([a,b],t)){st':St}{tl:Tl}(hR:doneF s 7 (b:Int) (a:Int) ⟨#[]⟩=(st',tl,0)):
 Calls Tryz.prog 19 #[.pointer (some ⟨D,0,none⟩),.string Cm.rot.name,.slice ao len cap] w (yy base Av D (yk s 7 b a ByteArray.empty) w):=by
 have ht:t.size<=9223372036854775807:=yt hI (zu hF).2.2;have CF:=zH (zy ⟨#[110,110]⟩ ws ao len cap w hI (by decide));rw[show(⟨#[110,110]⟩:ByteArray).data.toList=Cm.rot.form from rfl,hF]at CF;unfold yv at CF;clear hF hI;have hQ:yk s 7 b a ByteArray.empty=({s with st:=st'},dkOK):=by
  have hR':doF s.n s.k s.wr s.r s.st ((7:Nat):Int) ((b:Nat):Int) ((a:Nat):Int) ByteArray.empty=(st',tl,0):=hR;unfold yk yq;rw[hR'];rfl
 have hT:=qY h 7 (b:Int) (a:Int) ⟨#[]⟩;rw[hR]at hT;have hTa:=hT.a;have hTm:=hT.m;have hTx:=hT.x;have hn10:=h.ok.1.2.2;obtain⟨tx,a',mn⟩:=tl;simp only at hTa hTm hTx hQ;rw[hQ];unfold yy;clear hQ hT;unfold Cm.name;go_enter Tryz.func19,Tryz.ntmps19
 go_wp2_with fail
 (with_reducible refine CF.out.mono ?_);rintro e w1 ⟨v,rfl,hown,hb1⟩
 obtain⟨g,cx,rfl,hg0,hg1,hcell⟩:=zp (n:=2) rfl (by omega) hown;have c0:=hcell 0 a rfl;have c1:=hcell 1 b rfl;clear hown hcell CF;have CD:=zH (kW h hb1 7 (b:Int) (a:Int) ⟨#[]⟩ (Nat.zero_le _) hR);dsimp only[tellV]at CD;clear hR;go_wp2_with fail
 go_still_tail 8,(by kernel_rfl)
 change wpList _ _ _ _ _ (World.drew _);go_wp2_with (go_at_call 33;(with_reducible refine(CD.out _ (by first|exact Below.refl _ _|exact zb (Below.refl _ _))).mono ?_);rintro e w2 ⟨rfl,hd2,hk2,hg2⟩;have hW2:=zH (hW.later hk2.bel hbs);clear hg2)
 go_ret2
 exact⟨rfl,hd2,hk2⟩
theorem YW{w:World}{base:Nat}{Av:Nat->Prop}{D:Nat}{s:DS}(h:HasDsk w base Av D s)(hW:DkW w)(hbs:8<=base)(ws:List ByteArray)(a b c d:Nat)(t:ByteArray)(ao:Option Addr)(len cap:Nat)(hI:StrsIn w ao len ws)(hF:zB Cm.new.form ws=some ([a,b,c,d],t))(hq:qp (a:Int) b c d≠0):
 Calls Tryz.prog 19 #[.pointer (some ⟨D,0,none⟩),.string Cm.new.name,.slice ao len cap] w (zA base Av D s (qp (a:Int) b c d) w):=by
 have ht:t.size<=9223372036854775807:=yt hI (zu hF).2.2;have CF:=zH (zy ⟨#[110,110,110,110]⟩ ws ao len cap w hI (by decide));rw[show(⟨#[110,110,110,110]⟩:ByteArray).data.toList=Cm.new.form from rfl,hF]at CF;unfold yv at CF;clear hF hI;have CN:=zH fun W=>Vb (a:Int) b c d W hq
 unfold zdY at CN;obtain⟨E,hEE⟩:∃E,qp (a:Int) b c d=E:=⟨_,rfl⟩
 rw[hEE]at CN hq ⊢;have CK:Hid (∀W,Calls Tryz.prog 34 #[.int .i64 E] W fun e w'=>e=.panicked [{v:=vD E,recovered:=false}]/\W=w'):=zH fun W=>by
  have:=yF E W;rw[if_neg hq]at this;exact this
 unfold zA;clear hEE hq;unfold Cm.name;go_enter Tryz.func19,Tryz.ntmps19
 go_wp2_with fail
 (with_reducible refine CF.out.mono ?_);rintro e w1 ⟨v,rfl,hown,hb1⟩
 obtain⟨g,cx,rfl,hg0,hg1,hcell⟩:=zp (n:=4) rfl (by omega) hown;have c0:=hcell 0 a rfl;have c1:=hcell 1 b rfl;have c2:=hcell 2 c rfl;have c3:=hcell 3 d rfl;clear hown hcell CF;go_wp2_with fail
 go_region_held3 (fun w'=>w'.cell? ⟨g,0,none⟩=some (.int .i64 (a:Int))/\w'.cell? ⟨g,1,none⟩=some (.int .i64 (b:Int))/\w'.cell? ⟨g,2,none⟩=some (.int .i64 (c:Int))/\w'.cell? ⟨g,3,none⟩=some (.int .i64 (d:Int))) (first|(with_reducible exact HKK.out)|go_keep)
  (first|(go_at_call 8;(with_reducible refine(CN.out _).mono ?_);rintro e w2 ⟨rfl,hb5'⟩;have hb5:Below w1.heap.size w1 w2:=(by first|exact hb5'|exact(zb (Below.refl _ _)).trans hb5');have HKK:Hid (w2.cell? ⟨g,0,none⟩=some (.int .i64 (a:Int))/\w2.cell? ⟨g,1,none⟩=some (.int .i64 (b:Int))/\w2.cell? ⟨g,2,none⟩=some (.int .i64 (c:Int))/\w2.cell? ⟨g,3,none⟩=some (.int .i64 (d:Int))):=zH ⟨(hb5.cell (p:=⟨g,0,none⟩) hg1).trans c0,(hb5.cell (p:=⟨g,1,none⟩) hg1).trans c1,(hb5.cell (p:=⟨g,2,none⟩) hg1).trans c2,(hb5.cell (p:=⟨g,3,none⟩) hg1).trans c3⟩))
 all_goals
  have hb3:=hb1.trans (hb5.mono hb1.size);go_wp2_with (go_at_call 34;(with_reducible refine(CK.out _).mono ?_);rintro e w9 ⟨rfl,rfl⟩)
  exact⟨rfl,rfl,h.below hb3,h.kept hb3⟩
theorem X0{w:World}{base:Nat}{Av:Nat->Prop}{D:Nat}{s:DS}(h:HasDsk w base Av D s)(hW:DkW w)(hbs:8<=base)(ws:List ByteArray)(a b c d:Nat)(t:ByteArray)(ao:Option Addr)(len cap:Nat)(hI:StrsIn w ao len ws)(hF:zB Cm.new.form ws=some ([a,b,c,d],t))(hq:qp (a:Int) b c d=0):
 Calls Tryz.prog 19 #[.pointer (some ⟨D,0,none⟩),.string Cm.new.name,.slice ao len cap] w (yy base Av D (⟨a,b,c,d,⟨0,fun _=>false,fun _ _=>[]⟩⟩,dkOK) w):=by
 have ht:t.size<=9223372036854775807:=yt hI (zu hF).2.2;have CF:=zH (zy ⟨#[110,110,110,110]⟩ ws ao len cap w hI (by decide));rw[show(⟨#[110,110,110,110]⟩:ByteArray).data.toList=Cm.new.form from rfl,hF]at CF;unfold yv at CF;clear hF hI;have hqo:=zfZ hq;have hok2:(⟨a,b,c,d,⟨0,fun _=>false,fun _ _=>[]⟩⟩:DS).ok:=⟨by show 1<=b;omega,by show b<=a;omega,by show a<=10;omega⟩
 have hok:=h.ok;obtain⟨b0,nb0,V0,hD0⟩:=h;have CN:Hid (∀W,Below w.heap.size w W->Calls Tryz.prog 8 #[qV a b c d] W (JY base (AvD Av D) a b c d W)):=zH fun W hb=>VO a b c d base (AvD Av D) W hq (by omega) (Nat.le_trans hok.2.2.1 hb.size) fun g hg=>Nat.lt_of_lt_of_le (hD0.st.avlt g hg) hb.size
 unfold JY at CN;have CK:Hid (∀W,Calls Tryz.prog 34 #[.int .i64 0] W fun e w'=>e=.returned (.tuple #[])/\W=w'):=zH fun W=>by
  have:=yF 0 W;rw[if_pos rfl]at this;exact this
 have HH:Hid (HasDsk w base Av D s):=zH ⟨b0,nb0,V0,hD0⟩;have hc0:=hD0.cell;have hbD:=hD0.bD;have hnD:=hD0.nD;have HQ:=zH hok2;have HDL:=zH hok.2.2.2;unfold yy;clear hqo hq hD0 hok2 hok;unfold Cm.name;go_enter Tryz.func19,Tryz.ntmps19
 go_wp2_with fail
 (with_reducible refine CF.out.mono ?_);rintro e w1 ⟨v,rfl,hown,hb1⟩
 obtain⟨g,cx,rfl,hg0,hg1,hcell⟩:=zp (n:=4) rfl (by omega) hown;have c0:=hcell 0 a rfl;have c1:=hcell 1 b rfl;have c2:=hcell 2 c rfl;have c3:=hcell 3 d rfl;clear hown hcell CF;go_wp2_with fail
 go_region_held3 (fun w'=>w'.cell? ⟨g,0,none⟩=some (.int .i64 (a:Int))/\w'.cell? ⟨g,1,none⟩=some (.int .i64 (b:Int))/\w'.cell? ⟨g,2,none⟩=some (.int .i64 (c:Int))/\w'.cell? ⟨g,3,none⟩=some (.int .i64 (d:Int))) (first|(with_reducible exact HKK.out)|go_keep)
  (first|(go_at_call 8;(with_reducible refine(CN.out _ (by first|exact hb1|exact zb hb1)).mono ?_);rintro e w2 ⟨b5,nb5,V5,rfl,hS5,hb5'⟩;have hb5:Below w1.heap.size w1 w2:=(by first|exact hb5'|exact(zb (Below.refl _ _)).trans hb5');have HKK:Hid (w2.cell? ⟨g,0,none⟩=some (.int .i64 (a:Int))/\w2.cell? ⟨g,1,none⟩=some (.int .i64 (b:Int))/\w2.cell? ⟨g,2,none⟩=some (.int .i64 (c:Int))/\w2.cell? ⟨g,3,none⟩=some (.int .i64 (d:Int))):=zH ⟨(hb5.cell (p:=⟨g,0,none⟩) hg1).trans c0,(hb5.cell (p:=⟨g,1,none⟩) hg1).trans c1,(hb5.cell (p:=⟨g,2,none⟩) hg1).trans c2,(hb5.cell (p:=⟨g,3,none⟩) hg1).trans c3⟩))
 all_goals
  have hb15:Below w.heap.size w w2:=hb1.trans (hb5.mono hb1.size);have hh5:=(hb15.block D HDL.out).trans hc0;have x0:=zd hh5 0;simp only[List.getElem?_toArray,List.getElem?_cons_zero,List.getElem?_cons_succ]at x0;have f0:=zm hh5 0;have HS5:=zH hS5;have HB15:=zH hb15;have HH5:=zH hh5;clear hS5 hb5' hb5 hb15 hh5 hc0 CN;go_wp2_with (go_at_call 34;(with_reducible refine(CK.out _).mono ?_);rintro e w9 ⟨rfl,rfl⟩)
  go_ret2
  refine⟨rfl,⟨b5,nb5,V5,HQ.out,HS5.out.aside (.inr rfl) 0 _,?_,hbD,hnD⟩,((HH.out.kept HB15.out).aside (fun g hg e=>hnD (by rw[<-e];exact hg)) hbD 0 _)⟩;rw[heap_set _ HH5.out];rfl
structure NotStored (c:ByteArray):Prop where
 put:(c.toList==[112,117,116])=false
 torn:(c.toList==[116,111,114,110])=false
 get:(c.toList==[103,101,116])=false
 scrub:(c.toList==[115,99,114,117,98])=false
 down:(c.toList==[100,111,119,110])=false
 up:(c.toList==[117,112])=false
 lose:(c.toList==[108,111,115,101])=false
 rot:(c.toList==[114,111,116])=false
 new:(c.toList==[110,101,119])=false
theorem ZD(D:Nat)(c:ByteArray)(ao:Option Addr)(len cap:Nat)(w:World)(h:NotStored c):
 Calls Tryz.prog 19 #[.pointer (some ⟨D,0,none⟩),.string c,.slice ao len cap] w fun e w'=>e=.returned (.tuple #[.string ⟨#[]⟩,.bool false])/\w=w':=by
 obtain⟨h1,h2,h3,h4,h5,h6,h7,h8,h9⟩:=h;go_enter Tryz.func19,Tryz.ntmps19
 go_wp2_with fail
 go_ret2
 exact⟨rfl,rfl⟩
end Go.Proofs.YtmgfbmkfomebcaaGreatDoor
