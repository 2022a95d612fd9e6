/- strings.Join: the library's contract, laid at this program. (Printed by wip/tools/gen_reps.py for one seat: the numbers are that seat's.) -/
import Derived.Shelf.Strings.OnBuilder
import Derived.Test.YtmgfbmkfomebcaaGreatDoorRows
import Derived.Shelf.Strings.Repeat
import Derived.Test.YtmgfbmkfomebcaaGreatDoorDkM13
import Derived.Test.YtmgfbmkfomebcaaGreatDoorDkM11
import Derived.Deep.RegionWith
import Derived.Test.YtmgfbmkfomebcaaGreatDoorDkM12
import Derived.Test.YtmgfbmkfomebcaaGreatDoorDkM15
import Derived.Test.YtmgfbmkfomebcaaGreatDoorDkM9
set_option linter.unusedVariables false
set_option linter.unusedSimpArgs false
set_option maxRecDepth 100000
set_option maxHeartbeats 2000000
namespace Go.Proofs.YtmgfbmkfomebcaaGreatDoor
open Go.Shelf Go.RowKit
def Vq:Go.Shelf.Ren:=⟨fun|156=>117|165=>144|166=>145|169=>146|240=>166|241=>167|276=>177|277=>178|n=>n,fun|31=>22|9=>9|3=>3|4=>4|0=>0|20=>20|72=>206|76=>98|70=>204|37=>113|75=>97|127=>219|164=>238|5=>5|80=>208|n=>n,fun|n=>n⟩
theorem zfQ:Go.Proofs.Lays.n156 Tryz.prog Vq:={
 mixed:=by kernel_rfl
 f156:=Tryz.func117.trans (congrArg some (by kernel_rfl))
 f165:=Tryz.func144.trans (congrArg some (by kernel_rfl))
 f166:=Tryz.func145.trans (congrArg some (by kernel_rfl))
 f169:=Tryz.func146.trans (congrArg some (by kernel_rfl))
 f240:=Tryz.func166.trans (congrArg some (by kernel_rfl))
 f241:=Tryz.func167.trans (congrArg some (by kernel_rfl))
 f276:=Tryz.func177.trans (congrArg some (by kernel_rfl))
 f277:=Tryz.func178.trans (congrArg some (by kernel_rfl))
 t0:=Tryz.underlying0
 a0:=Tryz.isAgg0
 z0:=Tryz.sizeOf0
 v0:=Tryz.zeroValue0
 t3:=Tryz.underlying3
 a3:=Tryz.isAgg3
 z3:=Tryz.sizeOf3
 v3:=Tryz.zeroValue3
 t4:=Tryz.underlying4
 a4:=Tryz.isAgg4
 z4:=Tryz.sizeOf4
 v4:=Tryz.zeroValue4
 t9:=Tryz.underlying9
 a9:=Tryz.isAgg9
 z9:=Tryz.sizeOf9
 v9:=Tryz.zeroValue9
 t20:=Tryz.underlying20
 a20:=Tryz.isAgg20
 z20:=Tryz.sizeOf20
 v20:=Tryz.zeroValue20
 t31:=Tryz.underlying22
 a31:=Tryz.isAgg22
 z31:=Tryz.sizeOf22
 v31:=Tryz.zeroValue22
 t37:=Tryz.underlying113
 a37:=Tryz.isAgg113
 z37:=Tryz.sizeOf113
 v37:=Tryz.zeroValue113
 t70:=Tryz.underlying204
 a70:=Tryz.isAgg204
 z70:=Tryz.sizeOf204
 v70:=Tryz.zeroValue204
 t72:=Tryz.underlying206
 a72:=Tryz.isAgg206
 z72:=Tryz.sizeOf206
 v72:=Tryz.zeroValue206
 t75:=Tryz.underlying97
 a75:=Tryz.isAgg97
 z75:=Tryz.sizeOf97
 v75:=Tryz.zeroValue97
 t76:=Tryz.underlying98
 a76:=Tryz.isAgg98
 z76:=Tryz.sizeOf98
 v76:=Tryz.zeroValue98
 t127:=Tryz.underlying219
 a127:=Tryz.isAgg219
 z127:=Tryz.sizeOf219
 v127:=Tryz.zeroValue219
 t164:=Tryz.underlying238
 a164:=Tryz.isAgg238
 z164:=Tryz.sizeOf238
 v164:=Tryz.zeroValue238}
theorem zfz:Builder.Extra Tryz.prog Vq:={
 sizeBuilder:=by kernel_rfl
 liesBuilder:=by kernel_rfl
 t5:=Tryz.underlying5
 a5:=Tryz.isAgg5
 z5:=Tryz.sizeOf5
 v5:=Tryz.zeroValue5
 infoByte:=by kernel_rfl
 cellsByte:=by kernel_rfl
 sizeByte:=by kernel_rfl
 neB5:=by decide}
theorem zc8(bk o c:Nat)(xs:List ByteArray)(n:Nat)(sep:ByteArray)(w:World)(hn:xs.length=n)
 (hcells:∀(j:Nat) x,xs[j]?=some x->w.cell? ⟨bk,o+j,none⟩=some (.string x))
 (hbk:bk<w.heap.size)(hN:n<=140737488355328)(hcap:n<=c)
 (hlen:(Lib.join (xs.map (·.data.toList)) sep.data.toList).length<=140737488355328):
 Calls Tryz.prog 117 #[.slice (some ⟨bk,o,none⟩) n c,.string sep] w fun e w'=>e=.returned (.string ⟨(Lib.join (xs.map (·.data.toList)) sep.data.toList).toArray⟩)/\Below w.heap.size w w':=by
 subst hn;exact Any.strings_Join zfQ zfz bk o c xs sep w hcells hbk hN hcap hlen
def K2:Go.Shelf.Ren:=⟨fun|105=>142|212=>163|99=>164|165=>144|166=>145|170=>165|169=>146|263=>174|264=>175|206=>176|240=>166|241=>167|276=>177|277=>178|n=>n,fun|9=>9|3=>3|4=>4|20=>20|0=>0|46=>123|109=>225|5=>5|72=>206|76=>98|51=>163|146=>178|53=>144|148=>236|70=>204|37=>113|75=>97|127=>219|164=>238|80=>208|n=>n,fun|n=>n⟩
theorem zf6:Go.Proofs.Lays.n105 Tryz.prog K2:={
 mixed:=by kernel_rfl
 f99:=Tryz.func164.trans (congrArg some (by kernel_rfl))
 f105:=Tryz.func142.trans (congrArg some (by kernel_rfl))
 f165:=Tryz.func144.trans (congrArg some (by kernel_rfl))
 f166:=Tryz.func145.trans (congrArg some (by kernel_rfl))
 f169:=Tryz.func146.trans (congrArg some (by kernel_rfl))
 f170:=Tryz.func165.trans (congrArg some (by kernel_rfl))
 f206:=Tryz.func176.trans (congrArg some (by kernel_rfl))
 f212:=Tryz.func163.trans (congrArg some (by kernel_rfl))
 f240:=Tryz.func166.trans (congrArg some (by kernel_rfl))
 f241:=Tryz.func167.trans (congrArg some (by kernel_rfl))
 f263:=Tryz.func174.trans (congrArg some (by kernel_rfl))
 f264:=Tryz.func175.trans (congrArg some (by kernel_rfl))
 f276:=Tryz.func177.trans (congrArg some (by kernel_rfl))
 f277:=Tryz.func178.trans (congrArg some (by kernel_rfl))
 t0:=Tryz.underlying0
 a0:=Tryz.isAgg0
 z0:=Tryz.sizeOf0
 v0:=Tryz.zeroValue0
 t3:=Tryz.underlying3
 a3:=Tryz.isAgg3
 z3:=Tryz.sizeOf3
 v3:=Tryz.zeroValue3
 t4:=Tryz.underlying4
 a4:=Tryz.isAgg4
 z4:=Tryz.sizeOf4
 v4:=Tryz.zeroValue4
 t5:=Tryz.underlying5
 a5:=Tryz.isAgg5
 z5:=Tryz.sizeOf5
 v5:=Tryz.zeroValue5
 t9:=Tryz.underlying9
 a9:=Tryz.isAgg9
 z9:=Tryz.sizeOf9
 v9:=Tryz.zeroValue9
 t20:=Tryz.underlying20
 a20:=Tryz.isAgg20
 z20:=Tryz.sizeOf20
 v20:=Tryz.zeroValue20
 t37:=Tryz.underlying113
 a37:=Tryz.isAgg113
 z37:=Tryz.sizeOf113
 v37:=Tryz.zeroValue113
 t46:=Tryz.underlying123
 a46:=Tryz.isAgg123
 z46:=Tryz.sizeOf123
 v46:=Tryz.zeroValue123
 t51:=Tryz.underlying163
 a51:=Tryz.isAgg163
 z51:=Tryz.sizeOf163
 v51:=Tryz.zeroValue163
 t53:=Tryz.underlying144
 a53:=Tryz.isAgg144
 z53:=Tryz.sizeOf144
 v53:=Tryz.zeroValue144
 t70:=Tryz.underlying204
 a70:=Tryz.isAgg204
 z70:=Tryz.sizeOf204
 v70:=Tryz.zeroValue204
 t72:=Tryz.underlying206
 a72:=Tryz.isAgg206
 z72:=Tryz.sizeOf206
 v72:=Tryz.zeroValue206
 t75:=Tryz.underlying97
 a75:=Tryz.isAgg97
 z75:=Tryz.sizeOf97
 v75:=Tryz.zeroValue97
 t76:=Tryz.underlying98
 a76:=Tryz.isAgg98
 z76:=Tryz.sizeOf98
 v76:=Tryz.zeroValue98
 t109:=Tryz.underlying225
 a109:=Tryz.isAgg225
 z109:=Tryz.sizeOf225
 v109:=Tryz.zeroValue225
 t127:=Tryz.underlying219
 a127:=Tryz.isAgg219
 z127:=Tryz.sizeOf219
 v127:=Tryz.zeroValue219
 t146:=Tryz.underlying178
 a146:=Tryz.isAgg178
 z146:=Tryz.sizeOf178
 v146:=Tryz.zeroValue178
 t148:=Tryz.underlying236
 a148:=Tryz.isAgg236
 z148:=Tryz.sizeOf236
 v148:=Tryz.zeroValue236
 t164:=Tryz.underlying238
 a164:=Tryz.isAgg238
 z164:=Tryz.sizeOf238
 v164:=Tryz.zeroValue238}
theorem zfO:Builder.Extra Tryz.prog K2:={
 sizeBuilder:=by kernel_rfl
 liesBuilder:=by kernel_rfl
 t5:=Tryz.underlying5
 a5:=Tryz.isAgg5
 z5:=Tryz.sizeOf5
 v5:=Tryz.zeroValue5
 infoByte:=by kernel_rfl
 cellsByte:=by kernel_rfl
 sizeByte:=by kernel_rfl
 neB5:=by decide}
theorem zav(s:ByteArray)(c:Nat)(w:World)(hc:c<=9223372036854775807)(hlen:s.size*c<=140737488355328):
 Calls Tryz.prog 142 #[.string s,.int .i64 c] w fun e w'=>e=.returned (.string ⟨(Lib.repeatL s.data.toList c).toArray⟩)/\Below w.heap.size w w':=
 Any.strings_Repeat zf6 zfO s c w hc hlen
end Go.Proofs.YtmgfbmkfomebcaaGreatDoor
namespace Go.Proofs.YtmgfbmkfomebcaaGreatDoor
open Go.RowKit
theorem zdX(b:Nat):(⟨(Lib.repeatL (ByteArray.mk #[120]).data.toList b).toArray⟩:ByteArray).size=b:=by
 have:=Lib.repeatL_replicate 120 1 b;show(Lib.repeatL _ b).toArray.size=b;simp only[List.replicate_one]at this;show(Lib.repeatL [120] b).toArray.size=b;rw[this];simp
theorem KK(s:ByteArray)(k:Int)(w:World)(hs:s.size<=9223372036854775807):
 Calls Tryz.prog 114 #[.string s,.int .i64 k] w (zfj (yl s k) w):=by
 have ws:IntKind.i64.wrap ((s.size:Int)-4)=(s.size:Int)-4:=IntWalk.i64_in _ (by omega);by_cases h1:k<1
 . have d1:decide (k<1)=true:=decide_eq_true h1;have HE:Hid (yl s k=1):=zH (by unfold yl;rw[if_pos (by omega)]);clear h1;go_enter Tryz.func114,Tryz.ntmps114
   go_wp2_with fail
   go_ret
   exact⟨by rw[HE.out];rfl,Below.refl _ _⟩
 have d1:decide (k<1)=false:=decide_eq_false h1;by_cases h2:10<k
 . have d2:decide (10<k)=true:=decide_eq_true h2;have HE:Hid (yl s k=1):=zH (by unfold yl;rw[if_pos (by omega)]);clear h1 h2;go_enter Tryz.func114,Tryz.ntmps114
   go_wp2_with fail
   go_ret
   exact⟨by rw[HE.out];rfl,Below.refl _ _⟩
 have d2:decide (10<k)=false:=decide_eq_false h2;by_cases h3:s.size<5
 . have d3:decide ((s.size:Int)-4<1)=true:=by simp;omega
   have HE:Hid (yl s k=7):=zH (by unfold yl;rw[if_neg (by omega),if_pos h3]);clear h1 h2;go_enter Tryz.func114,Tryz.ntmps114
   go_wp2_with fail
   go_ret
   exact⟨by rw[HE.out];rfl,Below.refl _ _⟩
 obtain⟨n,hn⟩:∃n,s.size-4=n:=⟨_,rfl⟩
 have en:(s.size:Int)-4=(n:Int):=by omega
 have d3:decide ((n:Int)<1)=false:=by simp;omega
 have hhs:=XF s;obtain⟨A,hA⟩:∃A,XE s=A:=⟨_,rfl⟩
 have hA2:s.extract 0 n=A:=by rw[<-hA];unfold XE;rw[hn]
 obtain⟨T,hT⟩:∃T,zak s=T:=⟨_,rfl⟩
 have hT2:s.extract n s.size=T:=by rw[<-hT];unfold zak;rw[hn]
 rw[hA]at hhs;have CS:=zH (fun W=>V4 A W (by omega));obtain⟨c,hc⟩:∃c,Zp A=c:=⟨_,rfl⟩
 have hcb:c<4294967296:=by rw[<-hc];exact Yo A
 rw[hc]at CS;have CF:=zH (fun W=>J5 c W hcb);have hF:Hid (zal s=yi (vF c)):=zH (by unfold zal;rw[hA,hc]);obtain⟨F,hF2⟩:∃F,yi (vF c)=F:=⟨_,rfl⟩
 rw[hF2]at hF CF;have HE:Hid (yl s k=if T≠F then 8 else if 60<zJ s 0\/s.size≠5+yZ (zJ s 0) k.toNat then 3 else 0):=zH (by unfold yl;rw[if_neg (by omega),if_neg h3,hT,hF.out]);have n0:(0:Int)<=(n:Int):=by omega
 have n1:(n:Int)<=(s.size:Int):=by omega
 have HN:=zH hn;clear hA hT hc hF hF2 hn;by_cases hTF:T=F
 . have t1:=zdk hTF.symm;have t1n:(F.toList !=T.toList)=false:=by rw[bne,t1];rfl
   have HTF:=zH hTF;clear hTF;have hs0:0<s.size:=by omega
   obtain⟨b,hb⟩:∃b,zJ s 0=b:=⟨_,rfl⟩
   have hbb:b<256:=by rw[<-hb];exact yH _ _
   have hb2:s[0].toNat=b:=by rw[<-hb];exact yT s 0 hs0
   rw[hb]at HE;by_cases h6:60<b
   . have d6:decide ((60:Int)<(b:Int))=true:=by simp;omega
     have HE3:Hid (yl s k=3):=zH (by rw[HE.out,if_neg (by simp[HTF.out]),if_pos (.inl h6)]);clear hb;go_enter Tryz.func114,Tryz.ntmps114
     go_wp2_with fail
     go_region_with (first
      |(go_at_call 112;(with_reducible refine(CS.out _).mono ?_);rintro e w5 ⟨rfl,hb5⟩)
      |(go_at_call 111;(with_reducible refine(CF.out _).mono ?_);rintro e w6 ⟨rfl,hb6⟩)
      |fail)
     all_goals
      have HB:=zH (((zb (Below.refl w.heap.size w)).trans hb5).trans (hb6.mono (by have:=hb5.size;exact this)));clear hb5 hb6;go_wp2_with fail
      go_ret
      exact⟨by rw[HE3.out];rfl,HB.out⟩
   . have d6:decide ((60:Int)<(b:Int))=false:=by simp;omega
     obtain⟨K,rfl⟩:∃K:Nat,k=K:=⟨k.toNat,by omega⟩
     have hz2:Hid (yZ b ((K:Int).toNat)=yZ b K):=zH rfl;have wb:IntKind.i64.wrap (b:Int)=(b:Int):=IntWalk.i64_in _ (by omega);have CRP:=zH (fun W=>zav ⟨#[120]⟩ b W (by omega) (by show 1*b<=_;omega));have hrs:=zdX b;obtain⟨R,hR⟩:∃R,(⟨(Lib.repeatL (ByteArray.mk #[120]).data.toList b).toArray⟩:ByteArray)=R:=⟨_,rfl⟩
     rw[hR]at CRP hrs;have CSP:=zH (fun W=>jf R K K W (by omega) (by omega) (Nat.le_refl _) (by omega));unfold kg at CSP;rw[hrs]at CSP;have hzb:=vG (T:=b) (k:=K) (by omega);obtain⟨z,hz⟩:∃z,yZ b K=z:=⟨_,rfl⟩
     rw[hz]at CSP hz2 hzb;clear hb hz hR hrs;have q0:0<K:=by omega
     by_cases h7:n=1+z
     . have d7:(((z+5:Nat):Int)==(s.size:Int))=true:=by simp;have:=HN.out;omega
       have d7n:(((z+5:Nat):Int)!=(s.size:Int))=false:=by rw[bne,d7];rfl
       have HE3:Hid (yl s K=0):=zH (by rw[HE.out,if_neg (by simp[HTF.out]),if_neg (by rw[hz2.out];have:=HN.out;omega)]);have H7:=zH h7;clear h7;go_enter Tryz.func114,Tryz.ntmps114
       go_wp2_with fail
       go_region_with (first
        |(go_at_call 112;(with_reducible refine(CS.out _).mono ?_);rintro e w5 ⟨rfl,hb5⟩)
        |(go_at_call 111;(with_reducible refine(CF.out _).mono ?_);rintro e w6 ⟨rfl,hb6⟩)
        |fail)
       all_goals
        have HB:=zH (((zb (Below.refl w.heap.size w)).trans hb5).trans (hb6.mono (by have:=hb5.size;exact this)));clear hb5 hb6;go_wp2_with fail
        (with_reducible refine(CRP.out _).mono ?_)
        rintro e w7 ⟨rfl,hb7⟩;have HB7:=zH (HB.out.trans (hb7.mono HB.out.size));clear hb7;go_wp2_with fail
        (with_reducible refine(CSP.out _).mono ?_)
        rintro e w8 ⟨ao,cap,rfl,hR8,hb8⟩;obtain⟨bb,oo,rfl,c8⟩:=hR8 0 _ (zG _ q0);obtain⟨P,hP⟩:∃P,qx b z (pcF R K 0)=P:=⟨_,rfl⟩
        have hPs:P.size=z+5:=by rw[<-hP];exact ph _ _ _
        rw[hP,Nat.add_zero]at c8;have HB8:=zH (HB7.out.trans (hb8.mono HB7.out.size));clear hb8 hR8 hP;go_wp2_with fail
        go_ret
        exact⟨by rw[HE3.out];rfl,HB8.out⟩
     . have d7:(((z+5:Nat):Int)==(s.size:Int))=false:=by simp;have:=HN.out;omega
       have d7n:(((z+5:Nat):Int)!=(s.size:Int))=true:=by rw[bne,d7];rfl
       have HE3:Hid (yl s K=3):=zH (by rw[HE.out,if_neg (by simp[HTF.out]),if_pos (by rw[hz2.out];have:=HN.out;omega)]);go_enter Tryz.func114,Tryz.ntmps114
       go_wp2_with fail
       go_region_with (first
        |(go_at_call 112;(with_reducible refine(CS.out _).mono ?_);rintro e w5 ⟨rfl,hb5⟩)
        |(go_at_call 111;(with_reducible refine(CF.out _).mono ?_);rintro e w6 ⟨rfl,hb6⟩)
        |fail)
       all_goals
        have HB:=zH (((zb (Below.refl w.heap.size w)).trans hb5).trans (hb6.mono (by have:=hb5.size;exact this)));clear hb5 hb6;go_wp2_with fail
        (with_reducible refine(CRP.out _).mono ?_)
        rintro e w7 ⟨rfl,hb7⟩;have HB7:=zH (HB.out.trans (hb7.mono HB.out.size));clear hb7;go_wp2_with fail
        (with_reducible refine(CSP.out _).mono ?_)
        rintro e w8 ⟨ao,cap,rfl,hR8,hb8⟩;obtain⟨bb,oo,rfl,c8⟩:=hR8 0 _ (zG _ q0);obtain⟨P,hP⟩:∃P,qx b z (pcF R K 0)=P:=⟨_,rfl⟩
        have hPs:P.size=z+5:=by rw[<-hP];exact ph _ _ _
        rw[hP,Nat.add_zero]at c8;have HB8:=zH (HB7.out.trans (hb8.mono HB7.out.size));clear hb8 hR8 hP;go_wp2_with fail
        go_ret
        exact⟨by rw[HE3.out];rfl,HB8.out⟩
 . have t1:=zdj (fun h:F=T=>hTF h.symm);have t1n:(F.toList !=T.toList)=true:=by rw[bne,t1];rfl
   have HE3:Hid (yl s k=8):=zH (by rw[HE.out,if_pos hTF]);clear hTF;go_enter Tryz.func114,Tryz.ntmps114
   go_wp2_with fail
   go_region_with (first
    |(go_at_call 112;(with_reducible refine(CS.out _).mono ?_);rintro e w5 ⟨rfl,hb5⟩)
    |(go_at_call 111;(with_reducible refine(CF.out _).mono ?_);rintro e w6 ⟨rfl,hb6⟩)
    |fail)
   all_goals
    have HB:=zH (((zb (Below.refl w.heap.size w)).trans hb5).trans (hb6.mono (by have:=hb5.size;exact this)));clear hb5 hb6;go_wp2_with fail
    go_ret
    exact⟨by rw[HE3.out];rfl,HB.out⟩
theorem VM:yb Tryz.prog 168 (.agg #[.bool false,.int .u8 0]) 2 2:=yf (by kernel_rfl) rfl (by omega)
theorem JS:yb Tryz.prog 3 (.int .i64 0) 1 8:=yf (by kernel_rfl) rfl (by omega)
theorem X7(H:Nat->Bool)(B:Nat->GF)(n k:Nat)(ao:Option Addr)(cap:Nat)(w:World)(hn:n<=20)(hk1:1<=k)(hk2:k<=n)(hR:Hid (Reads w ao (vV H B n))):
 Calls Tryz.prog 116 #[.slice ao n cap,.int .i64 k] w (kN H B (pl H n) n k w):=by
 refine(zbi H B n k ao cap w hn hk1 hk2 hR).mono ?_;rintro e w' ⟨hb,hh⟩;have hl:(pd H n n).length=(pl H n).length:=by rw[pS,List.length_reverse]
 rw[hl]at hh;refine⟨hb,?_⟩;rcases hh with⟨a1,rfl⟩|⟨a1,a2,rfl⟩|⟨a1,a2,v,rfl,hv⟩
 . exact .inl ⟨a1,rfl⟩
 . exact .inr (.inl ⟨a1,fun h=>a2 ((Ka (by omega) a1).1.1 h),rfl⟩)
 . have hf:=(Ka (by omega) a1).1.2 a2;have hs:=(Ka (by omega) a1).2 hf;refine .inr (.inr ⟨a1,hf,v,rfl,?_⟩);have e:zX n (gfV fun j=>qn B (pl H n) k (gf j))=zX n (gfV fun j=>qn B (pd H n n) k (gf j)):=kT fun j _=>by
    unfold gfV;dsimp only;rw[hs]
   rw[e];exact hv
theorem Xm(H:Nat->Bool)(B:Nat->GF)(j:Nat):vV H B (j+1)=vV H B j++[.bool (H j),gfV B j]:=by
 unfold vV jj;rw[List.range_succ,List.map_append,List.flatMap_append];rfl
theorem JT(l:List Nat):zZ l=(l.map fun a:Nat=>(a:Int)).map (Value.int .i64):=by
 unfold zZ;rw[List.map_map];rfl
theorem JU(l:List Nat)(j:Nat):((j:Int)∈l.map fun a:Nat=>(a:Int))↔j∈l:=by
 constructor
 . intro h;obtain⟨a,ha,he⟩:=List.mem_map.1 h;have:a=j:=by omega
   exact this ▸ ha
 . intro h;exact List.mem_map.2 ⟨j,h,rfl⟩
theorem Qa(m:Nat)(F:Nat->Nat->Nat):∀K,((List.range K).map fun j=>(zE m (F j)).data.toList).flatten=(List.range (K*m)).map fun p=>UInt8.ofNat (F (p / m) (p%m))
 |0=>by simp
 |K+1=>by
  rw[List.range_succ,List.map_append,List.flatten_append,Qa m F K,Nat.succ_mul,List.range_add,List.map_append]
  congr 1
  simp only[List.map_cons,List.map_nil,List.flatten_cons,List.flatten_nil,List.append_nil,List.map_map];unfold zE;apply List.map_congr_left;intro i hi;have him:=List.mem_range.1 hi;show UInt8.ofNat (F K i)=UInt8.ofNat (F ((K*m+i) / m) ((K*m+i)%m))
  rw[Nat.mul_comm K m,Nat.mul_add_div (by omega),Nat.div_eq_of_lt him,Nat.mul_add_mod,Nat.mod_eq_of_lt him,Nat.add_zero]
theorem Xn(L:List (List UInt8)):Lib.join L []=L.flatten:=by
 cases L with
 |nil=>rfl
 |cons x r=>
  rw[Lib.join_cons];unfold Lib.joinTail;simp
theorem zaZ(m K t:Nat)(F:Nat->Nat->Nat)(ht:t<=K*m):
 (⟨(Lib.join ((qD K fun j=>zE m (F j)).map (·.data.toList)) (ByteArray.mk #[]).data.toList).toArray⟩:ByteArray).extract 0 t=zE t (fun p=>F (p / m) (p%m)):=by
 have e:Lib.join ((qD K fun j=>zE m (F j)).map (·.data.toList)) (ByteArray.mk #[]).data.toList=(List.range (K*m)).map fun p=>UInt8.ofNat (F (p / m) (p%m)):=by
  rw[<-Qa m F K];unfold qD;rw[List.map_map];exact Xn _
 rw[e];unfold zE;apply ByteArray.ext;rw[ByteArray.data_extract];apply Array.toList_inj.1;simp;rw[<-List.map_take,List.take_range,Nat.min_eq_left ht]
end Go.Proofs.YtmgfbmkfomebcaaGreatDoor
