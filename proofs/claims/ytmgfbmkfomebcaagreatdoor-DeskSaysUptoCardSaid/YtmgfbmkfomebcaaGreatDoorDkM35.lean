/- desk.form, numbers. -/
import Derived.Test.YtmgfbmkfomebcaaGreatDoorDkM34
import Derived.Test.YtmgfbmkfomebcaaGreatDoorDkM8
import Derived.Test.YtmgfbmkfomebcaaGreatDoorDkM9
import Derived.Test.YtmgfbmkfomebcaaGreatDoorDkM4xEuclid
import Derived.Test.YtmgfbmkfomebcaaGreatDoorDkM7
import Derived.Test.YtmgfbmkfomebcaaGreatDoorDkM5
import Derived.Test.YtmgfbmkfomebcaaGreatDoorDkM6xHamming
import Derived.Deep.QuietTactic
import Derived.BigQuiet
set_option linter.unusedVariables false
set_option linter.unusedSimpArgs false
set_option maxRecDepth 100000
set_option maxHeartbeats 4000000
namespace Go.Proofs.YtmgfbmkfomebcaaGreatDoor
open Go.RowKit
def qU(n:Nat):Value:=.int .i64 (n:Int)
def yv(R:Option (List Nat×ByteArray))(w:World)(e:Ending)(w':World):Prop:=
 match R with
 |some (x,t)=>∃v,e=.returned (.tuple #[v,.string t])/\w'.ownsRow w.heap.size 3 1 v x.length (x.map qU)/\Below w.heap.size w w'
 |none=>e=dkPanic 12/\Below w.heap.size w w'
theorem ye{f:List UInt8}{ws:List ByteArray}{j:Nat}(hf:j<f.length)(hw:j<ws.length)(acc:List Nat)(t:ByteArray):
 yd (f.drop j) (ws.drop j) acc t=if f[j]=119 then yd (f.drop (j+1)) (ws.drop (j+1)) acc ws[j] else match y7 ws[j]with|none=>none|some n=>yd (f.drop (j+1)) (ws.drop (j+1)) (acc++[n]) t:=by
 rw[List.drop_eq_getElem_cons hf,List.drop_eq_getElem_cons hw];rfl
theorem yB{f:List UInt8}{ws:List ByteArray}{j:Nat}(hw:ws.length<=j)(acc:List Nat)(t:ByteArray):yd (f.drop j) (ws.drop j) acc t=some (acc,t):=by
 rw[List.drop_of_length_le hw];cases f.drop j<;>rfl
theorem yQ:yb Tryz.prog 3 (.int .i64 0) 1 8:=yf (by kernel_rfl) rfl (by omega)
theorem zey{f:ByteArray}{j:Nat}(h:j<f.data.toList.length):f.data.toList[j]=119↔zJ f j=119:=by
 unfold zJ;rw[List.getD_eq_getElem?_getD,List.getElem?_eq_getElem h,Option.getD_some];constructor
 . intro e;rw[e];rfl
 . intro e;exact UInt8.toNat_inj.1 e
theorem YL(f:ByteArray)(ws:List ByteArray)(ao:Option Addr)(len cap:Nat)(w:World)(hI:StrsIn w ao len ws)(hl:f.size=len)(hsm:len<=100):
 Calls Tryz.prog 32 #[.slice ao len cap,.string f] w (yv (yd f.data.toList ws [] ByteArray.empty) w):=by
 obtain⟨hlen,h63,hsz,hR⟩:=hI;have t0:((len:Int)!=(f.size:Int))=false:=by rw[hl];simp
 obtain⟨R,hRR⟩:∃R,yd f.data.toList ws [] ByteArray.empty=R:=⟨_,rfl⟩
 rw[hRR];have CN:=zH fun(x:ByteArray) (hx:x∈ws) W=>JF x W (hsz x hx)
 unfold Kw at CN;have HL:=zH hl;have HLEN:=zH hlen;have HR:=zH hR;have HSM:=zH hsm;have HRR:=zH hRR;clear hl hlen hR hRR hsz hsm;go_enter Tryz.func32,Tryz.ntmps32
 go_wp2_with fail
 go_loopw [6,7,19] (fun s6 s7 s19 wr=>∃(j:Nat) (acc:List Nat) (t:ByteArray),s19=.int .i64 j/\s7=.string t/\j<=len/\acc.length<=j/\Hid (yd (f.data.toList.drop j) (ws.drop j) acc t=R)/\Hid (wr.ownsRow w.heap.size 3 1 s6 acc.length (acc.map qU))/\Hid (Below w.heap.size w wr)) (fun _ _ s19 _=>len-(intOf s19).toNat)
 case atStart=>exact⟨0,[],ByteArray.empty,rfl,rfl,by omega,Nat.le_refl _,HRR,zH (World.ownsRow_nil _ _ _ _),zH (Below.refl _ _)⟩
 case round=>
  obtain⟨j,acc,t,rfl,rfl,hj,hacc,HD,HO,HB⟩:=hrel;obtain⟨wo,rfl⟩:∃wo,wo=wr:=⟨_,rfl⟩
  by_cases hjl:j<len
  . have hjf:j<f.size:=by rw[HL.out];exact hjl
    have hjw:j<ws.length:=by rw[HLEN.out];exact hjl
    have hstep:=ye (f:=f.data.toList) (ws:=ws) hjf hjw acc t;obtain⟨x,hx⟩:∃x,ws[j]=x:=⟨_,rfl⟩
    have hxm:x∈ws:=by rw[<-hx];exact List.getElem_mem _
    obtain⟨b,o,rfl,hc0⟩:=HR.out j (.string x) (by rw[List.getElem?_map,List.getElem?_eq_getElem hjw,hx];rfl);have hc:=(HB.out.cell (p:=⟨b,o+j,none⟩) (World.block_lt_of_cell? _ _ hc0)).trans hc0;have hy:=yT f j hjf;have hiff:=zey hjf;obtain⟨c,hcc⟩:∃c,zJ f j=c:=⟨_,rfl⟩
    rw[hcc]at hy hiff;have k0:(0:Int)<=(j:Int):=by omega
    have k1:(j:Int)<(f.size:Int):=by omega
    have k2:(j:Int)<(len:Int):=by omega
    rw[hx,HD.out]at hstep;have CX:=zH (CN.out x hxm);by_cases h119:c=119
    . subst h119;rw[if_pos (hiff.2 rfl)]at hstep;have HD2:=zH hstep.symm;clear hstep hx hcc hiff hc0;go_wp2_with fail
      go_roundw
      case rel=>exact⟨j+1,acc,x,by go_num,rfl,by omega,by omega,HD2,HO,HB⟩
      case measure=>simp[intOf];omega
    . rw[if_neg (fun e=>h119 (hiff.1 e))]at hstep;have hn:((c:Int)==119)=false:=by rw[beq_eq_false_iff_ne];omega
      cases hnum:y7 x with
      |none=>
       rw[hnum]at hstep;have CX2:Hid (∀W,Calls Tryz.prog 58 #[.string x] W fun e w'=>e=.panicked [{v:=vD 12,recovered:=false}]/\Below W.heap.size W w'):=zH fun W=>(CX.out W).mono fun e w' h=>by rw[hnum]at h;exact h
       have HR0:=zH hstep;clear hstep hx hcc hiff hc0 CX hnum;go_wp2_with (go_at_call 58;(with_reducible refine(CX2.out _).mono ?_);rintro e w2 ⟨rfl,hb2⟩)
       refine⟨rfl,?_⟩;rw[HR0.out];exact⟨rfl,HB.out.trans (hb2.mono HB.out.size)⟩
      |some n=>
       rw[hnum]at hstep;have CX2:Hid (∀W,Calls Tryz.prog 58 #[.string x] W fun e w'=>e=.returned (.int .i64 (n:Int))/\Below W.heap.size W w'):=zH fun W=>(CX.out W).mono fun e w' h=>by rw[hnum]at h;exact h
       have HD2:=zH hstep.symm;clear hstep hx hcc hiff hc0 CX hnum;go_wp2_with (first
        |(go_at_call 58;(with_reducible refine(CX2.out _).mono ?_);rintro e w2 ⟨rfl,hb2⟩;have HB2:=zH (HB.out.trans (hb2.mono HB.out.size));have HO2:=zH (zi HO.out hb2))
        |(at_builtin;go_must (refine yr rfl (.tmp 29) (.tmp 32) 62 rfl w.heap.size 3 _ 1 8 Tryz.underlying62 yQ _ acc.length _ (by rfl) HO2.out [.int .i64 (n:Int)] (by rfl) rfl (by intro u hu;simp at hu;subst hu;rfl) (by have:=HSM.out;unfold maxLen;omega) (by have:=HSM.out;omega) HB2.out.size ?_);intro v5 w5 hown5 hgr5 hb5;have HO5:Hid (w5.ownsRow w.heap.size 3 1 v5 (acc++[n]).length ((acc++[n]).map qU)):=zH (by rw[List.length_append,List.map_append];exact hown5);have HB5:=zH (HB2.out.trans hb5);clear hown5 hgr5 hb5)
        |fail)
       go_roundw
       case rel=>exact⟨j+1,acc++[n],t,by go_num,rfl,by omega,by rw[List.length_append,List.length_singleton];omega,HD2,HO5,HB5⟩
       case measure=>simp[intOf];omega
  . obtain rfl:j=len:=by omega
    have hend:=yB (f:=f.data.toList) (ws:=ws) (j:=j) (by rw[HLEN.out];exact Nat.le_refl _) acc t;rw[HD.out]at hend;have HE:=zH hend;clear hend;go_wp2_with fail
    go_ret2
    unfold yv;rw[HE.out];exact⟨_,rfl,HO.out,HB.out⟩
theorem XT(f:ByteArray)(ao:Option Addr)(len cap:Nat)(w:World)(hl:len≠f.size):
 Calls Tryz.prog 32 #[.slice ao len cap,.string f] w fun e w'=>e=dkPanic 12/\Below w.heap.size w w':=by
 have t0:((len:Int)!=(f.size:Int))=true:=by simp;omega
 go_enter Tryz.func32,Tryz.ntmps32
 go_wp2_with fail
 exact⟨rfl,rfl,Below.refl _ _⟩
theorem zy(f:ByteArray)(ws:List ByteArray)(ao:Option Addr)(len cap:Nat)(w:World)(hI:StrsIn w ao len ws)(hf:f.size<=4):
 Calls Tryz.prog 32 #[.slice ao len cap,.string f] w (yv (zB f.data.toList ws) w):=by
 have hlen:=hI.1;have hfl:f.data.toList.length=f.size:=rfl;unfold zB;by_cases h:len=f.size
 . rw[if_neg (by rw[hlen,hfl];omega)];exact YL f ws ao len cap w hI h.symm (by omega)
 . rw[if_pos (by rw[hlen,hfl];exact h)];exact XT f ao len cap w h
theorem ky(zs:List Int)(ao:Option Addr)(len cap:Nat)(w:World)(hW:DkW w)(hlen:zs.length=len)(hsm:len<=1000)(h64:QR zs)(hR:Reads w ao (zs.map (Value.int .i64))):
 Calls Tryz.prog 36 #[.slice ao len cap] w (zq (yx zs) w):=by
 have CI:=zH fun(z:Int) (hz:z∈zs) W (hb:Below w.heap.size w W)=>qa z (h64 z hz).1 (h64 z hz).2 W (hW.below hb)
 unfold zq at CI;have HLEN:=zH hlen;have HR:=zH hR;have H64:=zH h64;have HSM:=zH hsm;clear hlen hR h64 hsm;have hsm:=HSM.out;go_enter Tryz.func36,Tryz.ntmps36
 go_wp2_with fail
 go_loopw [3,8] (fun s3 s8 wr=>∃(j:Nat) (S:ByteArray),s8=.int .i64 j/\s3=.string S/\j<=len/\Hid (S=vJ (zs.take j))/\S.size<=j*21/\Hid (Below w.heap.size w wr)) (fun _ s8 _=>len-(intOf s8).toNat)
 case atStart=>exact⟨0,ByteArray.empty,rfl,rfl,by omega,zH rfl,Nat.le_refl _,zH (Below.refl _ _)⟩
 case round=>
  obtain⟨j,S,rfl,rfl,hj,HS,hSz,HB⟩:=hrel;obtain⟨wo,rfl⟩:∃wo,wo=wr:=⟨_,rfl⟩
  by_cases hjl:j<len
  . have hjz:j<zs.length:=by rw[HLEN.out];exact hjl
    obtain⟨z,hz⟩:∃z,zs[j]=z:=⟨_,rfl⟩
    have hzm:z∈zs:=by rw[<-hz];exact List.getElem_mem _
    obtain⟨b,o,rfl,hc0⟩:=HR.out j (.int .i64 z) (by rw[List.getElem?_map,List.getElem?_eq_getElem hjz,hz];rfl);have hc:=(HB.out.cell (p:=⟨b,o+j,none⟩) (World.block_lt_of_cell? _ _ hc0)).trans hc0;have CZ:=zH (CI.out z hzm);have HS2:Hid (S++(zS z++dkSp)=vJ (zs.take (j+1))):=zH (by rw[List.take_succ_eq_append_getElem hjz,qX,hz,HS.out]);have hzs:=ya z (H64.out z hzm).1 (H64.out z hzm).2;obtain⟨D,hD⟩:∃D,zS z=D:=⟨_,rfl⟩
    rw[hD]at hzs HS2 CZ;have e1:(D++dkSp).size=D.size+1:=zW _ _;have e2:(S++(D++dkSp)).size=S.size+(D.size+1):=by rw[zW,e1]
    have HE2:=zH e2;clear hz hc0 hD e1 e2;have k2:(j:Int)<(len:Int):=by omega
    go_wp2_with (go_at_call 16;(with_reducible refine(CZ.out _ HB.out).mono ?_);rintro e w2 ⟨rfl,hb2⟩)
    go_roundw
    case rel=>exact⟨j+1,S++(D++dkSp),by go_num,rfl,by omega,HS2,by have:=HE2.out;omega,zH (HB.out.trans (hb2.mono HB.out.size))⟩
    case measure=>simp[intOf];omega
  . obtain rfl:j=len:=by omega
    have HS2:Hid (S++dkDot=yx zs):=zH (by unfold yx;rw[HS.out,List.take_of_length_le (by rw[HLEN.out];exact Nat.le_refl _)]);go_wp2_with fail
    go_ret
    unfold zq;rw[<-HS2.out];exact⟨rfl,HB.out⟩
theorem VP{c:ByteArray}{m:Cm}(h:pm c=some m):c=m.name:=by
 have e:=zcM h;rw[ByteArray.toList_eq,ByteArray.toList_eq]at e;obtain⟨d⟩:=c;have:d=m.name.data:=Array.toList_inj.1 e;subst this;rfl
theorem Zi:∀(f:List UInt8) (ws:List ByteArray) (acc:List Nat) (t:ByteArray) (x:List Nat) (u:ByteArray),ws.length=f.length->(∀n∈acc,n<=9999999)->yd f ws acc t=some (x,u)->
 x.length=acc.length+(f.filter fun c=> !(c==119)).length/\(∀n∈x,n<=9999999)/\(u=t\/u∈ws)
 |[],ws,acc,t,x,u,_,ha,h=>by
  have h':some (acc,t)=some (x,u):=by rw[<-h];cases ws<;>rfl
  cases h';exact⟨by simp,ha,.inl rfl⟩
 |c::f,[],acc,t,x,u,hl,_,_=>by simp at hl
 |c::f,w::ws,acc,t,x,u,hl,ha,h=>by
  have hl':ws.length=f.length:=by simpa using hl
  unfold yd at h;by_cases hc:c=119
  . rw[if_pos hc]at h;obtain⟨h1,h2,h3⟩:=Zi f ws acc w x u hl' ha h;refine⟨by rw[h1,List.filter_cons_of_neg (by simp[hc])],h2,?_⟩;rcases h3 with h3|h3
    . exact .inr (by simp[h3])
    . exact .inr (by simp[h3])
  . rw[if_neg hc]at h;cases hn:y7 w with
    |none=>rw[hn]at h;cases h
    |some n=>
     rw[hn]at h;obtain⟨h1,h2,h3⟩:=Zi f ws (acc++[n]) t x u hl' (by
      intro m hm;rcases List.mem_append.1 hm with hm|hm
      . exact ha m hm
      . rw[List.mem_singleton.1 hm];exact(Qg hn).2.2) h
     refine⟨by rw[h1,List.filter_cons_of_pos (by simp[hc])];simp;omega,h2,?_⟩;rcases h3 with h3|h3
     . exact .inl h3
     . exact .inr (by simp[h3])
theorem zu{f:List UInt8}{ws:List ByteArray}{x:List Nat}{u:ByteArray}(h:zB f ws=some (x,u)):
 x.length=(f.filter fun c=> !(c==119)).length/\(∀n∈x,n<=9999999)/\(u=ByteArray.empty\/u∈ws):=by
 unfold zB at h;by_cases hl:ws.length=f.length
 . rw[if_neg (by simp[hl])]at h;have:=Zi f ws [] ByteArray.empty x u hl (by simp) h;simpa using this
 . rw[if_pos hl]at h;cases h
theorem J2{x:List Nat}(h:x.length=1):∃a,x=[a]:=List.length_eq_one_iff.1 h
theorem zfe{x:List Nat}(h:x.length=2):∃a b,x=[a,b]:=by
 match x,h with
 |[a,b],_=>exact⟨a,b,rfl⟩
theorem zgk{x:List Nat}(h:x.length=4):∃a b c d,x=[a,b,c,d]:=by
 match x,h with
 |[a,b,c,d],_=>exact⟨a,b,c,d,rfl⟩
theorem zp{w w1:World}{v:Value}{n:Nat}{x:List Nat}(hn:x.length=n)(h0:0<n)(h:w1.ownsRow w.heap.size 3 1 v x.length (x.map qU)):
 ∃g cap,v=.slice (some ⟨g,0,none⟩) n cap/\w.heap.size<=g/\g<w1.heap.size/\∀(j a:Nat),x[j]?=some a->w1.cell? ⟨g,j,none⟩=some (.int .i64 (a:Int)):=by
 rcases h.2 with⟨hv,h2⟩|⟨g,cap,cur,hv,hb,hg,rest⟩
 . omega
 . refine⟨g,cap,by rw[hv,hn],hb,(Array.getElem?_eq_some_iff.1 hg).1,fun j a ha=>?_⟩;have:=h.cells (g:=g) (by rw[hv];rfl) j (qU a) (by rw[List.getElem?_map,ha];rfl);rw[Addr.add_lit,Nat.zero_add]at this;exact this
theorem Zj(ws:List ByteArray)(ao:Option Addr)(len cap:Nat)(w:World)(hI:StrsIn w ao len ws)(hF:zB Cm.gcd.form ws=none):
 Calls Tryz.prog 20 #[.string Cm.gcd.name,.slice ao len cap] w fun e w'=>e=dkPanic 12/\Below w.heap.size w w':=by
 have CF:=zH (zy ⟨#[110,110]⟩ ws ao len cap w hI (by decide));rw[show(⟨#[110,110]⟩:ByteArray).data.toList=Cm.gcd.form from rfl,hF]at CF;unfold yv at CF;clear hF hI;unfold Cm.name;go_enter Tryz.func20,Tryz.ntmps20
 go_wp2_with fail
 (with_reducible refine CF.out.mono ?_);rintro e w1 ⟨rfl,hb1⟩
 exact⟨rfl,rfl,hb1⟩
theorem qf{P:Program}{f:FuncId}{args:Array Value}{w:World}{n:Nat}{v:Value}
 (h:∀W,Calls P f args W fun e w'=>e=.returned v/\∃m,w'=W.drewN m):
 Calls P f args (w.drewN n) fun e w''=>e=.returned v/\∃m,w''=w.drewN m:=
 (h (w.drewN n)).mono fun e w' hh=>by
  obtain⟨h1,m,rfl⟩:=hh;exact⟨h1,n+m,World.drewN_drewN _ _ _⟩
theorem za5(w:World)(q:Nat)(x y z:Int):Reads ((w.drewN q).alloc (.cells #[.int .i64 x,.int .i64 y,.int .i64 z] 3)) (some ⟨w.heap.size,0,none⟩) ([x,y,z].map (Value.int .i64)):=yK (w.drewN q) _ _
theorem za6(w:World)(q:Nat)(x:Int):Reads ((w.drewN q).alloc (.cells #[.int .i64 x] 3)) (some ⟨w.heap.size,0,none⟩) ([x].map (Value.int .i64)):=yK (w.drewN q) _ _
theorem VQ{a b:Nat}(ha:a<=9999999)(hb:b<=9999999):QR [qc (a:Int) b,jp (a:Int) b,gI (a:Int) b]:=by
 intro z hz;by_cases h0:b=0
 . subst h0;have hx:qc (a:Int) ((0:Nat):Int)=if 0<(a:Int) then 1 else 0:=by
    unfold qc;rw[if_pos (show((0:Nat):Int)=0 from rfl)]
    split
    . rfl
    . rw[if_neg (by omega)]
   have hy:jp (a:Int) ((0:Nat):Int)=0:=by unfold jp;rw[if_pos (show((0:Nat):Int)=0 from rfl)]
   have hg:gI (a:Int) ((0:Nat):Int)=a:=by unfold gI;simp
   rw[hx,hy,hg]at hz;simp at hz;rcases hz with rfl|rfl|rfl
   . split<;>omega
   . omega
   . omega
 . have B:=YK (a:Int) (b:Int) (by omega) (by omega) (by omega) (by omega) (by omega);have h1:=B.x0;have h2:=B.xm;have h3:=B.ylo;have h4:=B.yhi;have h5:=B.g1;have h6:=B.gm;rw[B.y]at h3 h4;simp at hz;rcases hz with rfl|rfl|rfl<;>omega
theorem Z7(ws:List ByteArray)(a b:Nat)(t:ByteArray)(ao:Option Addr)(len cap:Nat)(w:World)(hW:DkW w)(hI:StrsIn w ao len ws)(hF:zB Cm.gcd.form ws=some ([a,b],t)):
 Calls Tryz.prog 20 #[.string Cm.gcd.name,.slice ao len cap] w (zq (jU a b) w):=by
 have ha:=(zu hF).2.1 a (by simp);have hb:=(zu hF).2.1 b (by simp);have CF:=zH (zy ⟨#[110,110]⟩ ws ao len cap w hI (by decide));rw[show(⟨#[110,110]⟩:ByteArray).data.toList=Cm.gcd.form from rfl,hF]at CF;unfold yv at CF;have CB:=zH fun W=>Vj (a:Int) (b:Int) W (by omega) (by omega) (by omega) (by omega)
 have CK:=zH fun W=>yF 0 W
 rw[if_pos rfl]at CK;clear hF hI;unfold Cm.name jU;obtain⟨X,hX⟩:∃X,qc (a:Int) b=X:=⟨_,rfl⟩
 obtain⟨Y,hY⟩:∃Y,jp (a:Int) b=Y:=⟨_,rfl⟩
 obtain⟨G,hG⟩:∃G,gI (a:Int) b=G:=⟨_,rfl⟩
 have h64:=VQ ha hb;rw[hX,hY,hG]at h64;rw[hX,hY,hG]at CB ⊢;have CNu:Hid (∀W ao cap,Below w.heap.size w W->Reads W ao ([X,Y,G].map (Value.int .i64))->Calls Tryz.prog 36 #[.slice ao 3 cap] W (zq (yx [X,Y,G]) W)):=zH fun W ao cap hb hR=>ky [X,Y,G] ao 3 cap W (hW.below hb) rfl (by omega) h64 hR
 unfold zq at CNu;clear hX hY hG;go_enter Tryz.func20,Tryz.ntmps20
 go_wp2_with fail
 (with_reducible refine CF.out.mono ?_);rintro e w1 ⟨v,rfl,hown,hb1⟩
 obtain⟨g,cx,rfl,hg0,hg1,hcell⟩:=zp (n:=2) rfl (by omega) hown;have c0:=hcell 0 a rfl;have c1:=hcell 1 b rfl;clear hown hcell;go_wp2_with fail
 go_quiet ((go_at_call 35;(first|exact qf (fun W=>CB.out W)|exact yY (fun W=>CB.out W))))
 go_wp2_with (go_at_call 34;(with_reducible refine(CK.out _).mono ?_);rintro e w2 ⟨rfl,rfl⟩)
 have hb2:Below w.heap.size w ((w1.drewN nq).alloc (.cells #[.int .i64 X,.int .i64 Y,.int .i64 G] 3)):=(zg hb1 nq).alloc hb1.size _
 (with_reducible refine(CNu.out _ _ _ hb2 (za5 w1 nq X Y G)).mono ?_);rintro e w3 ⟨rfl,hb3⟩
 go_wp2_with fail
 go_ret
 exact⟨rfl,hb2.trans (hb3.mono hb2.size)⟩
theorem Xr{P:Program}{w:World}{ops:Array Oper}{rest:List Oper}{o:Oper}{a:Act}{Q:Exit->Act->World->Prop}(hgd:o.guard=none)(s x:Operand)(t:TypeId)
 (ho:o.op=.call {callee:=.builtin .append,args:=#[s,x],argTypes:=#[t,t]})
 (base:Nat)(e:TypeId)(z:Value)(bytes:Nat)(ht:P.underlying t=some (.slice e))(hE:yb P e z 1 bytes)
 (v:Value)(n:Nat)(xs:List Value)(hs:a.eval s=v)(hown:w.ownsRow base e 1 v n xs)(y1 y2:Value)
 (hx:a.eval x=.slice (some ⟨w.heap.size,0,none⟩) 2 2)(h1:y1.oneCell'=true)(h2:y2.oneCell'=true)
 (h63:n+2<=maxLen)(hbytes:(n+2)*bytes<=140737488355328)(hbase:base<=w.heap.size)
 (h:∀v' w',w'.ownsRow base e 1 v' (n+2) (xs++[y1,y2])->Below base w w'->wpList P ops Q rest (a.put o.dst v') w'):
 wpList P ops Q (o::rest) a (w.alloc (.cells #[y1,y2] e)):=
 Qh hgd s x t ho base e z 1 bytes ht hE v n xs hs (hown.alloc _) (some ⟨w.heap.size,0,none⟩) 2 2 [y1,y2] hx (fun h=>by cases h) rfl (yK w #[y1,y2] e)
  (by intro u hu;simp at hu;rcases hu with rfl|rfl<;>assumption) h63 hbytes (by rw[World.size_alloc];omega)
  fun v' w' ho _ hb=>h v' w' ho (((Below.refl base w).alloc hbase _).trans hb)
theorem KM:∀(l:List (Nat×Nat)),(∀a∈l,IsPr a.1/\1<=a.2)->2^l.length<=zU l/\∀a∈l,a.1<=zU l/\a.2<=zU l
 |[],_=>⟨by simp[zU],by simp⟩
 |a::l,h=>by
  obtain⟨h1,h2⟩:=KM l fun b hb=>h b (by simp[hb])
  have ha:=h a (by simp);have p1:1<=zU l:=Nat.le_trans Nat.one_le_two_pow h1;have q1:a.1^1<=a.1^a.2:=Nat.pow_le_pow_right (by have:=ha.1.1;omega) ha.2;rw[Nat.pow_one]at q1;have q2:2^a.2<=a.1^a.2:=Nat.pow_le_pow_left ha.1.1 _;have q3:a.2<2^a.2:=Nat.lt_two_pow_self;have q4:2<=a.1^a.2:=Nat.le_trans ha.1.1 q1;have e:zU (a::l)=a.1^a.2*zU l:=rfl;have m1:a.1^a.2*1<=a.1^a.2*zU l:=Nat.mul_le_mul_left _ p1;have m2:1*zU l<=a.1^a.2*zU l:=Nat.mul_le_mul_right _ (by omega);refine⟨?_,?_⟩
  . rw[List.length_cons,Nat.pow_succ,e,Nat.mul_comm];exact Nat.mul_le_mul q4 h1
  . intro b hb;rw[e];rcases List.mem_cons.1 hb with rfl|hb
    . omega
    . have:=h2 b hb;omega
theorem Qc{n:Nat}{l:List (Nat×Nat)}(h:Factors n l)(hn:n<=1000000):l.length<=19:=by
 have h1:=(KM l h.pr).1;rw[h.prod]at h1;rcases Nat.lt_or_ge l.length 20 with h2|h2
 . omega
 . have:2^20<=2^l.length:=Nat.pow_le_pow_right (by omega) h2;omega
theorem VR{n:Nat}{l:List (Nat×Nat)}(h:Factors n l)(hn:n<=1000000):QR (vA l):=by
 intro z hz;unfold vA at hz;obtain⟨a,ha,hz⟩:=List.mem_flatMap.1 hz;have:=(KM l h.pr).2 a ha;rw[h.prod]at this;simp at hz;rcases hz with rfl|rfl<;>omega
theorem VS(l:List (Nat×Nat))(a:Nat×Nat):vA (l++[a])=vA l++[(a.1:Int),(a.2:Int)]:=by simp[vA]
theorem Xs(l:List (Nat×Nat)):(vA l).length=2*l.length:=by
 induction l with
 |nil=>rfl
 |cons a t ih=>simp[vA]at ih ⊢;omega
theorem Z8(l:List (Nat×Nat))(k:Nat)(a:Nat×Nat)(h:l[k]?=some a):(yP l)[k*2]?=some (.int .i64 a.1)/\(yP l)[k*2+1]?=some (.int .i64 a.2):=by
 induction l generalizing k with
 |nil=>simp at h
 |cons b l ih=>
  cases k with
  |zero=>simp at h;subst h;simp[yP]
  |succ k=>
   simp at h;have:=ih k h;have e1:(k+1)*2=k*2+2:=by omega
   rw[e1];simpa[yP]using this
theorem Qd(ws:List ByteArray)(n:Nat)(t:ByteArray)(ao:Option Addr)(len cap:Nat)(w:World)(hW:DkW w)(hI:StrsIn w ao len ws)(hF:zB Cm.factor.form ws=some ([n],t))(h1:1<=n)(hn:n<=1000000):
 Calls Tryz.prog 20 #[.string Cm.factor.name,.slice ao len cap] w (zq (yx (vA (zaY n))) w):=by
 have CF:=zH (zy ⟨#[110]⟩ ws ao len cap w hI (by decide));rw[show(⟨#[110]⟩:ByteArray).data.toList=Cm.factor.form from rfl,hF]at CF;unfold yv at CF;have CP:=zH fun W=>Kd n W h1 hn
 unfold Yq at CP;have CK:=zH fun W=>yF 0 W
 rw[if_pos rfl]at CK;have CNu:Hid (∀(l:List (Nat×Nat)) W ao cap len,Factors n l->(vA l).length=len->Below w.heap.size w W->Reads W ao ((vA l).map (Value.int .i64))->Calls Tryz.prog 36 #[.slice ao len cap] W (zq (yx (vA l)) W)):=zH fun l W ao cap len hl hlen hb hR=>ky (vA l) ao len cap W (hW.below hb) hlen (by rw[<-hlen,Xs];have:=Qc hl hn;omega) (VR hl hn) hR
 unfold zq at CNu;clear hF hI;unfold Cm.name;go_enter Tryz.func20,Tryz.ntmps20
 go_wp2_with fail
 (with_reducible refine CF.out.mono ?_);rintro e w1 ⟨v,rfl,hown,hb1⟩
 obtain⟨g,cx,rfl,hg0,hg1,hcell⟩:=zp (n:=1) rfl (by omega) hown;have c0:=hcell 0 n rfl;clear hown hcell;go_wp2_with fail
 (with_reducible refine(CP.out _).mono ?_);rintro e w2 ⟨l,v2,hFl,hll,rfl,hown2,hb2⟩
 obtain⟨ap,cp,rfl,hRp,hnp, -⟩:=zr hown2;have hll2:=Qc hFl hn;have HB2:Hid (Below w.heap.size w w2):=zH (hb1.trans (hb2.mono hb1.size));have HRP:=zH hRp;have HFL:=zH hFl;obtain⟨ln,hln⟩:∃ln,l.length=ln:=⟨_,rfl⟩
 rw[hln]at hll hll2 ⊢;have HLN:=zH hln;have hs2:w.heap.size<=w2.heap.size:=HB2.out.size;clear hown2 hb2 hRp hFl hln hnp hb1 c0;go_wp2_with (go_at_call 34;(with_reducible refine(CK.out _).mono ?_);rintro e w9 ⟨rfl,rfl⟩)
 go_loopw [15,71] (fun so si wr=>∃k:Nat,si=.int .i64 k/\k<=ln/\Hid (wr.ownsRow w2.heap.size 3 1 so (2*k) ((vA (l.take k)).map (Value.int .i64)))/\Hid (Below w2.heap.size w2 wr)) (fun _ si _=>ln-(intOf si).toNat)
 case atStart=>exact⟨0,rfl,by omega,zH (World.ownsRow_nil _ _ _ _),zH (Below.refl _ _)⟩
 case round=>
  obtain⟨k,rfl,hk,HO,HB⟩:=hrel;obtain⟨wo,rfl⟩:∃wo,wo=wr:=⟨_,rfl⟩
  by_cases hkl:k<ln
  . obtain⟨a,ha⟩:∃a,l[k]?=some a:=⟨l[k]'(by rw[HLN.out];exact hkl),List.getElem?_eq_getElem _⟩
    obtain⟨P,M⟩:=a;have hnext:vA (l.take (k+1))=vA (l.take k)++[(P:Int),(M:Int)]:=by
     rw[show l.take (k+1)=l.take k++[(P,M)] by rw[List.take_add_one,ha];rfl,VS]
    have hc1:=Z8 l k _ ha;obtain⟨b,of,rfl,hcell1⟩:=(HRP.out.below HB.out) _ _ hc1.1;obtain⟨b',of',hbo,hcell2⟩:=(HRP.out.below HB.out) _ _ hc1.2;simp only[Option.some.injEq,Addr.mk.injEq,and_true]at hbo;obtain⟨rfl,rfl⟩:=hbo;have hcell1':wo.cell? ⟨b,of+k*2,none⟩=some (.int .i64 P):=hcell1;have hcell2':wo.cell? ⟨b,of+k*2+1,none⟩=some (.int .i64 (M:Int)):=hcell2;have hbw:w.heap.size<=wo.heap.size:=Nat.le_trans hs2 HB.out.size;obtain⟨W8,hW8⟩:∃W8,wo.alloc (.cells #[.int .i64 P,.int .i64 (M:Int)] 90)=W8:=⟨_,rfl⟩
    have hal:Below wo.heap.size wo W8:=by rw[<-hW8];exact(Below.refl _ wo).alloc (Nat.le_refl _) _
    have hh8:W8.heap[wo.heap.size]?=some (.cells #[.int .i64 P,.int .i64 (M:Int)] 90 (0,0)):=by rw[<-hW8];exact heap_alloc_new _ _
    obtain⟨x0,x1⟩:=zc2 hh8;have HO8:=zH (zi HO.out hal);have HB8:Hid (Below w2.heap.size w2 W8):=zH (HB.out.trans (hal.mono HB.out.size));have hbw8:w.heap.size<=W8.heap.size:=Nat.le_trans hbw hal.size;have hs28:w2.heap.size<=W8.heap.size:=HB8.out.size;have HNX:=zH hnext;clear hc1 hcell1 hcell2 ha hal hh8 hnext;go_wp2_with (first
     |(at_builtin;go_must (refine Xr rfl (.tmp 75) (.tmp 80) 62 rfl w2.heap.size 3 _ 8 Tryz.underlying62 yQ _ (2*k) _ (by rfl) HO8.out (.int .i64 (P:Int)) (.int .i64 (M:Int)) (by rfl) rfl rfl (by unfold maxLen;omega) (by omega) hs28 ?_);intro v5 w5 hown5 hb5;have HO5:Hid (w5.ownsRow w2.heap.size 3 1 v5 (2*(k+1)) ((vA (l.take (k+1))).map (Value.int .i64))):=zH (by rw[HNX.out,List.map_append];exact hown5);have HB5:=zH hb5;clear hown5 hb5)
     |fail)
    go_roundw
    case rel=>exact⟨k+1,by go_num,by omega,HO5,zH (HB8.out.trans HB5.out)⟩
    case measure=>simp[intOf];omega
  . obtain rfl:k=ln:=by omega
    have hown:=HO.out;rw[List.take_of_length_le (by rw[HLN.out];exact Nat.le_refl _)]at hown;obtain⟨aq,cq,rfl,hRq, -, -⟩:=zr hown;have hbw:Below w.heap.size w wo:=HB2.out.trans (HB.out.mono hs2);have CN2:=zH (CNu.out l wo aq cq (2*k) HFL.out (by rw[Xs,HLN.out]) hbw hRq);have HBW:=zH hbw;clear hown hRq hbw;go_wp2_with fail
    (with_reducible refine CN2.out.mono ?_);rintro e w3 ⟨rfl,hb3⟩
    go_wp2_with fail
    go_ret
    exact⟨by rw[zbA HFL.out];rfl,HBW.out.trans (hb3.mono HBW.out.size)⟩
end Go.Proofs.YtmgfbmkfomebcaaGreatDoor
