/- piece.Join. -/
import Derived.Test.YtmgfbmkfomebcaaGreatDoorDkM12
set_option linter.unusedVariables false
set_option linter.unusedSimpArgs false
set_option maxRecDepth 100000
set_option maxHeartbeats 16000000
namespace Go.Proofs.YtmgfbmkfomebcaaGreatDoor
open Go.RowKit
theorem zcj:yb Tryz.prog 4 (.bool false) 1 1:=yf (by kernel_rfl) rfl (by omega)
theorem Zf:yb Tryz.prog 168 (.agg #[.bool false,.int .u8 0]) 2 2:=yf (by kernel_rfl) rfl (by omega)
theorem zdH{ss:List ByteArray}{k:Int}{i:Nat}{b:Bool}(hb:usB ss k i=b)(j:Nat):(if j=i then Value.bool b else .bool (decide (j<i)&&usB ss k j))=.bool (decide (j<i+1)&&usB ss k j):=by
 by_cases h:j=i
 . subst h;rw[if_pos rfl,hb];simp
 . rw[if_neg h];have:(j<i)↔(j<i+1):=by omega
   simp[this]
theorem Xg(ss:List ByteArray)(n:Nat)(ao:Option Addr)(cap:Nat)(k:Int)(w:World)(h:StrsIn w ao n ss):
 Calls Tryz.prog 151 #[.slice ao n cap,.int .i64 k] w (jq ss n k w):=by
 have CR:=zH (pi k (n:Int) w);have HL:=zH h.1;have HN63:=h.2.1;have HSZ:=zH h.2.2.1;have HR:=zH h.2.2.2;clear h;cases hrb:qg k n with
 |false=>
  rw[hrb]at CR;have HJ:Hid (JoinIs ss n k ByteArray.empty 1):=zH (.inl ⟨hrb,rfl,rfl⟩);clear hrb;go_enter Tryz.func151,Tryz.ntmps151
  go_wp2_with fail
  (with_reducible refine CR.out.mono ?_)
  rintro e w1 ⟨rfl,rfl⟩;go_wp2_with fail
  go_ret2
  exact⟨_,_,HJ.out,rfl,Below.refl _ _⟩
 |true=>
  rw[hrb]at CR;have hb3:1<=k/\k<=n/\(n:Int)<=10:=by unfold qg at hrb;simp at hrb;omega
  obtain⟨K,rfl⟩:∃K:Nat,k=K:=⟨k.toNat,by omega⟩
  have HRB:=zH hrb;have k1:1<=K:=by omega
  have kn:K<=n:=by omega
  have n10:n<=10:=by omega
  clear hrb hb3;go_enter Tryz.func151,Tryz.ntmps151
  go_wp2_with fail
  (with_reducible refine CR.out.mono ?_)
  rintro e w1 ⟨rfl,rfl⟩;go_wp2_with (first
   |(at_make;refine qh rfl _ _ 233 rfl w.heap.size 4 _ 1 Tryz.underlying233 zcj rfl _ _ _ _ n (by rfl) (by rfl) rfl rfl (by omega) (by unfold maxLen;omega) (Nat.le_refl _) ?_;intro w2 hown hg2;have HU0:=zH hown;have HB0:=zH (zQ hg2 (Nat.le_refl _) (fun q hq=>by cases hq));clear hown hg2)
   |fail)
  obtain⟨gu,hgu⟩:∃gu,w.heap.size=gu:=⟨_,rfl⟩
  have HGU:=zH hgu;have HU:Hid (Own w2 gu 4 gu n n (fun j=>.bool (decide (j<0)&&usB ss K j))):=zH (by rw[<-hgu];exact HU0.out.congr fun j _=>by simp);have HB:Hid (Below gu w w2):=zH (by rw[<-hgu];exact HB0.out);have HL0:Hid (LenI ss K 0 (-1)):=zH (.inl ⟨rfl,rfl⟩);rw[hgu];clear HU0 HB0 hgu;go_wp2_with fail
  go_loopw [7,29] (fun vl vi wr=>∃(i:Nat) (L:Int),vi=.int .i64 i/\vl=.int .i64 L/\i<=n/\Hid (LenI ss K i L)/\Hid (Own wr gu 4 gu n n (fun j=>.bool (decide (j<i)&&usB ss K j)))/\Hid (Below gu w wr)) (fun _ vi _=>n-(intOf vi).toNat)
  case atStart=>exact⟨0, -1,rfl,rfl,by omega,HL0,HU,HB⟩
  case round=>
   clear HL0 HU HB;obtain⟨i,L,rfl,rfl,hi,HLI,HU,HB⟩:=hrel;obtain⟨wo,rfl⟩:∃wo,wo=wr:=⟨_,rfl⟩
   have HB':Hid (Below w.heap.size w wo):=zH (by rw[HGU.out];exact HB.out);by_cases hin:i<n
   . obtain⟨b1,o1,rfl,c1⟩:=(HR.out.below HB'.out) i _ (j4 (by have:=HL.out;omega));have hsz:=HSZ.out _ (ps (ss:=ss) (k:=i) (by have:=HL.out;omega));obtain⟨s,hs⟩:∃s,sAt ss i=s:=⟨_,rfl⟩
     rw[hs]at c1 hsz;have HS:=zH hs;have CC:=zH (fun W=>zam s (K:Int) W hsz);unfold zfj at CC;cases hu:usB ss K i with
     |false=>
      have hne:yl s K≠0:=by unfold usB at hu;rw[hs]at hu;exact of_decide_eq_false hu
      obtain⟨E,hE⟩:∃E,yl s K=E:=⟨_,rfl⟩
      rw[hE]at CC hne;have t1:((E:Int)==0)=false:=by simp;omega
      have HLI2:=zH (HLI.out.no hu);have HUU:=zH hu;clear hs hE hu hne;go_wp2_with fail
      (with_reducible refine(CC.out _).mono ?_)
      rintro e w3 ⟨rfl,hb3⟩;have HU3:=HU.out.below hb3;have p3:=HU3.cell hin;have f3:=HU3.frozen i;have A4:=HU3.store i (.bool false);have HU4:Hid (Own (w3.setCell ⟨gu,i,none⟩ (.bool false)) gu 4 gu n n (fun j=>.bool (decide (j<i+1)&&usB ss K j))):=zH (A4.1.congr fun j _=>zdH HUU.out j);have HB4:Hid (Below gu w (w3.setCell ⟨gu,i,none⟩ (.bool false))):=zH (zk (HB.out.trans (hb3.mono (by rw[<-HGU.out];exact HB'.out.size))) (Nat.le_refl _) _);have p4:=HU4.out.cell hin;simp only[HUU.out,Bool.and_false]at p4;clear hb3 HU3 A4;go_wp2_with fail
      go_roundw
      case rel=>exact⟨i+1,L,by go_num,rfl,by omega,HLI2,HU4,HB4⟩
      case measure=>simp[intOf];omega
     |true=>
      have heq:yl s K=0:=by unfold usB at hu;rw[hs]at hu;exact of_decide_eq_true hu
      rw[heq]at CC;have hsize:=pD hu;rw[hs]at hsize;have hs5:0<s.size:=by omega
      obtain⟨c,hc⟩:∃c,zJ s 0=c:=⟨_,rfl⟩
      have hfb:qd ss i=c:=by unfold qd;rw[hs,hc]
      have hb2:s[0].toNat=c:=by rw[<-hc];exact yT s 0 hs5
      have hcb:c<256:=by rw[<-hc];exact yH _ _
      have wc:IntKind.i64.wrap (c:Int)=(c:Int):=IntWalk.i64_in _ (by omega);have HUU:=zH hu;have HFB:=zH hfb;clear hs hu heq hsize hc hfb;have hcase:L= -1\/∃t:Nat,L=t:=by
       rcases HLI.out with⟨_,h2⟩|⟨t,_,h2,_⟩
       . exact .inl h2
       . exact .inr ⟨t,h2⟩
      have mk4:∀w3,Below wo.heap.size wo w3->Hid (Own (w3.setCell ⟨gu,i,none⟩ (.bool true)) gu 4 gu n n (fun j=>.bool (decide (j<i+1)&&usB ss K j)))/\Hid (Below gu w (w3.setCell ⟨gu,i,none⟩ (.bool true))):=fun w3 hb3=>
       ⟨zH (((HU.out.below hb3).store i (.bool true)).1.congr fun j _=>zdH HUU.out j),zH (zk (HB.out.trans (hb3.mono (by rw[<-HGU.out];exact HB'.out.size))) (Nat.le_refl _) _)⟩
      have MK4:=zH mk4;clear mk4;rcases hcase with rfl|⟨t,rfl⟩
      . have HLI2:=HLI.out.yes HUU.out (.inl rfl);rw[HFB.out]at HLI2;have HL2:=zH HLI2;clear HLI2;go_wp2_with fail
        (with_reducible refine(CC.out _).mono ?_)
        rintro e w3 ⟨rfl,hb3⟩;have HU3:=HU.out.below hb3;have p3:=HU3.cell hin;have f3:=HU3.frozen i;obtain⟨HU4,HB4⟩:=MK4.out w3 hb3;have p4:=HU4.out.cell hin;simp only[HUU.out,Bool.and_true,Nat.lt_succ_self,decide_true]at p4;clear hb3 HU3;go_wp2_with fail
        go_roundw
        case rel=>exact⟨i+1,c,by go_num,rfl,by omega,HL2,HU4,HB4⟩
        case measure=>simp[intOf];omega
      . have dt:decide ((0:Int)<=(t:Int))=true:=by simp
        by_cases hct:c=t
        . have d1:((c:Int)==(t:Int))=true:=by simp[hct]
          have d1n:((c:Int)!=(t:Int))=false:=by rw[bne,d1];rfl
          have HLI2:=HLI.out.yes HUU.out (.inr (by rw[HFB.out,hct]));rw[HFB.out]at HLI2;have HL2:=zH HLI2;have HCT:=zH hct;clear HLI2 hct;go_wp2_with fail
          (with_reducible refine(CC.out _).mono ?_)
          rintro e w3 ⟨rfl,hb3⟩;have HU3:=HU.out.below hb3;have p3:=HU3.cell hin;have f3:=HU3.frozen i;obtain⟨HU4,HB4⟩:=MK4.out w3 hb3;have p4:=HU4.out.cell hin;simp only[HUU.out,Bool.and_true,Nat.lt_succ_self,decide_true]at p4;clear hb3 HU3;go_wp2_with fail
          go_roundw
          case rel=>exact⟨i+1,c,by go_num,rfl,by omega,HL2,HU4,HB4⟩
          case measure=>simp[intOf];omega
        . have d1:((c:Int)==(t:Int))=false:=by simp;omega
          have d1n:((c:Int)!=(t:Int))=true:=by rw[bne,d1];rfl
          have HJ:Hid (JoinIs ss n K ByteArray.empty 3):=zH (.inr (.inl ⟨HRB.out,HLI.out.differ hin HUU.out (by rw[HFB.out];exact hct),rfl,rfl⟩));clear hct;go_wp2_with fail
          (with_reducible refine(CC.out _).mono ?_)
          rintro e w3 ⟨rfl,hb3⟩;have HU3:=HU.out.below hb3;have p3:=HU3.cell hin;have f3:=HU3.frozen i;obtain⟨HU4,HB4⟩:=MK4.out w3 hb3;have p4:=HU4.out.cell hin;simp only[HUU.out,Bool.and_true,Nat.lt_succ_self,decide_true]at p4;clear hb3 HU3;go_wp2_with fail
          go_ret2
          exact⟨_,_,HJ.out,rfl,by rw[HGU.out];exact HB4.out⟩
   . obtain rfl:n=i:=by omega
     have HSAME:=zH HLI.out.same;rcases(show L= -1\/∃t:Nat,L=t by rcases HLI.out with⟨_,h2⟩|⟨t,_,h2,_⟩;exact .inl h2;exact .inr ⟨t,h2⟩)with rfl|⟨t,rfl⟩
     . have HG0:Hid (pl (usB ss K) n=[]):=zH (by rcases HLI.out with⟨h1,_⟩|⟨t,_,h2,_⟩;exact h1;exact absurd h2 (by omega));obtain⟨m,hm⟩:∃m,yZ 0 K=m:=⟨_,rfl⟩
       have hm0:m=0:=by have:=vG (T:=0) k1;omega
       have hmb:m<=60:=by omega
       have CZ:=zH (fun W=>(show Calls Tryz.prog 153 #[.int .i64 0,.int .i64 K] W fun e w'=>e=.returned (.int .i64 (m:Nat))/\W=w' from by rw[<-hm];exact jM 0 K W (by omega) k1 (by omega)));clear hm HLI;obtain⟨Q,hQ⟩:∃Q,K*m=Q:=⟨_,rfl⟩
       have hQb:Q<=600:=by rw[<-hQ];exact Nat.mul_le_mul (show K<=10 by omega) hmb
       have q1:(K:Int)*(m:Int)=(Q:Int):=by rw[<-hQ];push_cast;rfl
       have q2:IntKind.i64.wrap (Q:Int)=(Q:Int):=IntWalk.i64_in _ (by omega);have HQ:=zH hQ;clear hQ;have d1:decide ((m:Int)<1)=true:=by simp;omega
       have d2:decide ((0:Int)<(m:Int))=false:=by simp;omega
       have d1':(m:Int)<1:=by omega
       have hQ0:Q=0:=by rw[<-HQ.out,hm0,Nat.mul_zero]
       have HM0:=zH hm0;have HQ0:=zH hQ0;clear hm0 hQ0;go_wp2_with fail
       (with_reducible refine(CZ.out _).mono ?_)
       rintro e w3 ⟨rfl,rfl⟩;go_wp2_with (first
        |(at_make;refine qh rfl _ _ 113 rfl gu 5 _ 1 Tryz.underlying113 vO rfl _ _ _ _ Q (by rfl) (by rfl) rfl rfl (by omega) (by unfold maxLen;omega) (by have:=HU.out.lt;omega) ?_;intro w4 hown hg4;have HX0:=zH hown;have HB4:=zH (HB.out.grown hg4 (by rw[<-HGU.out];exact HB'.out.size) (fun q hq=>by cases hq));have HU4:=zH (World.ownsRow.kept (HU.out) hg4 (.inr (fun h=>by cases h)));clear hown hg4)
        |fail)
       obtain⟨gt,hgt⟩:∃gt,wo.heap.size=gt:=⟨_,rfl⟩
       have HUG:Hid (gu≠gt):=zH (by rw[<-hgt];have:=HU.out.lt;omega);rw[hgt]at HX0 ⊢;clear hgt HB HU HB';have HU5:Hid (Own w4 gu 4 gu n n (fun j=>.bool (decide (j<n)&&usB ss K j))):=HU4;have HX5:Hid (Own w4 gu 5 gt Q Q (fun x=>.int .u8 ((if x%m<0 then qr ss K n (x%m) (x / m) else 0:Nat):Int))):=zH (HX0.out.congr fun x _=>by rw[if_neg (by omega)];rfl);clear HX0 HU4;go_wp2_with fail
       go_loopw [69] (fun vq wr=>∃q:Nat,vq=.int .i64 q/\q<=1/\Hid (Own wr gu 5 gt Q Q (fun x=>.int .u8 ((if x%m<q then qr ss K n (x%m) (x / m) else 0:Nat):Int)))/\Hid (Own wr gu 4 gu n n (fun j=>.bool (decide (j<n)&&usB ss K j)))/\Hid (∀i,i<q->True)/\Hid (q=0\/K<=(qz ss K n).length)/\Hid (Below gu w wr)) (fun vq _=>1-(intOf vq).toNat)
       case atStart=>exact⟨0,rfl,by omega,HX5,HU5,zH (fun i hi=>by omega),zH (.inl rfl),HB4⟩
       case round=>
        clear HX5 HU5 HB4;obtain⟨q,rfl,hq,HX,HU,HF,HK,HB⟩:=hrel;obtain⟨wq,rfl⟩:∃wq,wq=wr:=⟨_,rfl⟩
        have HB':Hid (Below w.heap.size w wq):=zH (by rw[HGU.out];exact HB.out);by_cases hqR:q<1
        . go_wp2_with (first
            |(at_make;refine Qi rfl _ _ 166 rfl wq.heap.size 168 _ 2 2 Tryz.underlying166 Zf _ _ _ _ n (by rfl) (by rfl) rfl rfl (by omega) (by unfold maxLen;omega) (Nat.le_refl _) ?_;intro w5 hown hg5;have HC0:=zH (Za (f:=yV (usB ss K) ((fun _=>(0:GF))) 0) hown (by omega) (pY _ _ n));have HB5:=zH (zQ hg5 (Nat.le_refl _) (fun q hq=>by cases hq));clear hown hg5)
            |fail)
          obtain⟨gc,hgc⟩:∃gc,wq.heap.size=gc:=⟨_,rfl⟩
          have HGC:=zH hgc;have hxl:=HX.out.lt;have hul:=HU.out.lt;have HNE:Hid (gt≠gc/\gu≠gc):=zH (by omega);have HC5:Hid (Own w5 gc 168 gc (n*2) (n*2) (yV (usB ss K) ((fun _=>(0:GF))) 0)):=zH (by rw[<-hgc];exact HC0.out);have HB5':Hid (Below gc wq w5):=zH (by rw[<-hgc];exact HB5.out);rw[hgc];clear HC0 HB5 hgc hxl hul;go_wp2_with fail
          go_loopw [77] (fun vj wr=>∃j:Nat,vj=.int .i64 j/\j<=n/\Hid (Own wr gc 168 gc (n*2) (n*2) (yV (usB ss K) ((fun _=>(0:GF))) j))/\Hid (Below gc wq wr)) (fun vj _=>n-(intOf vj).toNat)
          case atStart=>exact⟨0,rfl,by omega,HC5,HB5'⟩
          case round=>
           clear HC5 HB5';obtain⟨j,rfl,hj,HC,HBj⟩:=hrel;obtain⟨wj,rfl⟩:∃wj,wj=wr:=⟨_,rfl⟩
           have HBj':Hid (Below wq.heap.size wq wj):=zH (by rw[HGC.out];exact HBj.out);have HBw:=zH (HB'.out.trans (HBj'.out.mono HB'.out.size));by_cases hjn:j<n
           . obtain⟨b1,o1,ha,c1⟩:=(HR.out.below HBw.out) j _ (j4 (by have:=HL.out;omega));obtain⟨s,hs⟩:∃s,sAt ss j=s:=⟨_,rfl⟩
             rw[hs]at c1;have hsz:=HSZ.out _ (ps (ss:=ss) (k:=j) (by have:=HL.out;omega));rw[hs]at hsz;have HS:=zH hs;subst ha;clear hs;have pu:=(HU.out.below HBj'.out).cell hjn;cases hu:usB ss K j with
             |false=>
              simp only[hu,Bool.and_false]at pu;have HC2:Hid (Own wj gc 168 gc (n*2) (n*2) (yV (usB ss K) ((fun _=>(0:GF))) (j+1))):=zH (HC.out.congr fun t _=>Y9 hu t);have HUU:=zH hu;clear hu;go_wp2_with fail
              go_roundw
              case rel=>exact⟨j+1,by go_num,by omega,HC2,HBj⟩
              case measure=>simp[intOf];omega
             |true=>
              simp only[hu,hjn,Bool.and_true,decide_true]at pu;have e0:=HC.out.cell (i:=j*2) (by omega);have e0f:=HC.out.frozen (j*2);have e1:=HC.out.cell (i:=j*2+1) (by omega);have e1f:=HC.out.frozen (j*2+1);have A1:=HC.out.store (j*2) (.bool true);have HC2:Hid (Own (wj.setCell ⟨gc,j*2,none⟩ (.bool true)) gc 168 gc (n*2) (n*2) (yV (usB ss K) ((fun _=>(0:GF))) (j+1))):=zH (A1.1.congr fun t _=>by
               rw[<-Zb hu t];by_cases h1:t=j*2+1
               . subst h1;rw[if_neg (by omega),if_pos rfl];unfold yV;rw[if_neg (by omega),if_neg (by omega)];rfl
               . rw[if_neg h1])
              have HB2:Hid (Below gc wq (wj.setCell ⟨gc,j*2,none⟩ (.bool true))):=zH (zk HBj.out (Nat.le_refl _) _);have HUU:=zH hu;clear hu A1;unfold yV at e0 e1;rw[if_pos (by omega)]at e0;go_wp2_with fail
              go_roundw
              case rel=>exact⟨j+1,by go_num,by omega,HC2,HB2⟩
              case measure=>simp[intOf];omega
           . obtain rfl:n=j:=by omega
             have hcc:Hid (Reads wj (some ⟨gc,0,none⟩) (vV (usB ss K) ((fun _=>(0:GF))) n)):=zH (Zc HC.out.reads (fun j _ hj=>rfl));have CM:=zH (Q5 (usB ss K) ((fun _=>(0:GF))) n K (some ⟨gc,0,none⟩) n wj (by omega) k1 kn hcc);unfold kN at CM;have HXj:=zH (HX.out.below HBj'.out);have HUj:=zH (HU.out.below HBj'.out);clear HC HBj hcc;go_wp2_with fail
             (with_reducible refine CM.out.mono ?_)
             rintro e w7 ⟨hb7,⟨few,rfl⟩|⟨enough,nofit,rfl⟩|⟨enough,X8,v7,rfl,hown7⟩⟩
             . have HJ:Hid (JoinIs ss n K ByteArray.empty 9):=zH (.inr (.inr (.inl ⟨HRB.out,HSAME.out,few,rfl,rfl⟩)));have HB7:=zH (HBw.out.trans (hb7.mono HBw.out.size));clear few hb7;go_wp2_with fail
               go_ret2
               exact⟨_,_,HJ.out,rfl,HB7.out⟩
             . exact absurd (JG _ _ _ _) nofit
             . exact absurd enough (by rw[show pl (usB ss K) n=[] from HG0.out];simp;omega)
        . exfalso
          rcases HK.out with h1|h1
          . omega
          . rw[show qz ss K n=[] from HG0.out]at h1;simp at h1;omega
     . have HLT:=zH HLI.out.lenT;have ht60:t<=60:=by
        rcases HLI.out with⟨_,h2⟩|⟨t',_,h2,h3,h4⟩
        . omega
        . obtain⟨a,ha⟩:=List.exists_mem_of_ne_nil _ h3;have h5:=h4 a ha;have h6:=zbu (qv.1 ha).2;omega
       obtain⟨m,hm⟩:∃m,yZ t K=m:=⟨_,rfl⟩
       have hmb:m<=60:=by have:=vG (T:=t) k1;omega
       have HMD:=zH hm;have HLM:Hid (Kx ss K n=m):=zH (by unfold Kx;rw[HLT.out];exact hm);have CZ:=zH (fun W=>jM t K W (by omega) k1 (by omega));rw[hm]at CZ;clear hm HLI;by_cases hm0:m=0
       . obtain⟨Q,hQ⟩:∃Q,K*m=Q:=⟨_,rfl⟩
         have hQb:Q<=600:=by rw[<-hQ];exact Nat.mul_le_mul (show K<=10 by omega) hmb
         have q1:(K:Int)*(m:Int)=(Q:Int):=by rw[<-hQ];push_cast;rfl
         have q2:IntKind.i64.wrap (Q:Int)=(Q:Int):=IntWalk.i64_in _ (by omega);have HQ:=zH hQ;clear hQ;have d1:decide ((m:Int)<1)=true:=by simp;omega
         have d2:decide ((0:Int)<(m:Int))=false:=by simp;omega
         have d1':(m:Int)<1:=by omega
         have hQ0:Q=0:=by rw[<-HQ.out,hm0,Nat.mul_zero]
         have HM0:=zH hm0;have HQ0:=zH hQ0;clear hm0 hQ0;have dm:decide ((t:Int)<0)=false:=by simp
         have dm':¬((t:Int)<0):=by omega
         go_wp2_with fail
         (with_reducible refine(CZ.out _).mono ?_)
         rintro e w3 ⟨rfl,rfl⟩;go_wp2_with (first
          |(at_make;refine qh rfl _ _ 113 rfl gu 5 _ 1 Tryz.underlying113 vO rfl _ _ _ _ Q (by rfl) (by rfl) rfl rfl (by omega) (by unfold maxLen;omega) (by have:=HU.out.lt;omega) ?_;intro w4 hown hg4;have HX0:=zH hown;have HB4:=zH (HB.out.grown hg4 (by rw[<-HGU.out];exact HB'.out.size) (fun q hq=>by cases hq));have HU4:=zH (World.ownsRow.kept (HU.out) hg4 (.inr (fun h=>by cases h)));clear hown hg4)
          |fail)
         obtain⟨gt,hgt⟩:∃gt,wo.heap.size=gt:=⟨_,rfl⟩
         have HUG:Hid (gu≠gt):=zH (by rw[<-hgt];have:=HU.out.lt;omega);rw[hgt]at HX0 ⊢;clear hgt HB HU HB';have HU5:Hid (Own w4 gu 4 gu n n (fun j=>.bool (decide (j<n)&&usB ss K j))):=HU4;have HX5:Hid (Own w4 gu 5 gt Q Q (fun x=>.int .u8 ((if x%m<0 then qr ss K n (x%m) (x / m) else 0:Nat):Int))):=zH (HX0.out.congr fun x _=>by rw[if_neg (by omega)];rfl);clear HX0 HU4;go_wp2_with fail
         go_loopw [69] (fun vq wr=>∃q:Nat,vq=.int .i64 q/\q<=1/\Hid (Own wr gu 5 gt Q Q (fun x=>.int .u8 ((if x%m<q then qr ss K n (x%m) (x / m) else 0:Nat):Int)))/\Hid (Own wr gu 4 gu n n (fun j=>.bool (decide (j<n)&&usB ss K j)))/\Hid (∀i,i<q->True)/\Hid (q=0\/K<=(qz ss K n).length)/\Hid (Below gu w wr)) (fun vq _=>1-(intOf vq).toNat)
         case atStart=>exact⟨0,rfl,by omega,HX5,HU5,zH (fun i hi=>by omega),zH (.inl rfl),HB4⟩
         case round=>
          clear HX5 HU5 HB4;obtain⟨q,rfl,hq,HX,HU,HF,HK,HB⟩:=hrel;obtain⟨wq,rfl⟩:∃wq,wq=wr:=⟨_,rfl⟩
          have HB':Hid (Below w.heap.size w wq):=zH (by rw[HGU.out];exact HB.out);by_cases hqR:q<1
          . go_wp2_with (first
              |(at_make;refine Qi rfl _ _ 166 rfl wq.heap.size 168 _ 2 2 Tryz.underlying166 Zf _ _ _ _ n (by rfl) (by rfl) rfl rfl (by omega) (by unfold maxLen;omega) (Nat.le_refl _) ?_;intro w5 hown hg5;have HC0:=zH (Za (f:=yV (usB ss K) ((fun _=>(0:GF))) 0) hown (by omega) (pY _ _ n));have HB5:=zH (zQ hg5 (Nat.le_refl _) (fun q hq=>by cases hq));clear hown hg5)
              |fail)
            obtain⟨gc,hgc⟩:∃gc,wq.heap.size=gc:=⟨_,rfl⟩
            have HGC:=zH hgc;have hxl:=HX.out.lt;have hul:=HU.out.lt;have HNE:Hid (gt≠gc/\gu≠gc):=zH (by omega);have HC5:Hid (Own w5 gc 168 gc (n*2) (n*2) (yV (usB ss K) ((fun _=>(0:GF))) 0)):=zH (by rw[<-hgc];exact HC0.out);have HB5':Hid (Below gc wq w5):=zH (by rw[<-hgc];exact HB5.out);rw[hgc];clear HC0 HB5 hgc hxl hul;go_wp2_with fail
            go_loopw [77] (fun vj wr=>∃j:Nat,vj=.int .i64 j/\j<=n/\Hid (Own wr gc 168 gc (n*2) (n*2) (yV (usB ss K) ((fun _=>(0:GF))) j))/\Hid (Below gc wq wr)) (fun vj _=>n-(intOf vj).toNat)
            case atStart=>exact⟨0,rfl,by omega,HC5,HB5'⟩
            case round=>
             clear HC5 HB5';obtain⟨j,rfl,hj,HC,HBj⟩:=hrel;obtain⟨wj,rfl⟩:∃wj,wj=wr:=⟨_,rfl⟩
             have HBj':Hid (Below wq.heap.size wq wj):=zH (by rw[HGC.out];exact HBj.out);have HBw:=zH (HB'.out.trans (HBj'.out.mono HB'.out.size));by_cases hjn:j<n
             . obtain⟨b1,o1,ha,c1⟩:=(HR.out.below HBw.out) j _ (j4 (by have:=HL.out;omega));obtain⟨s,hs⟩:∃s,sAt ss j=s:=⟨_,rfl⟩
               rw[hs]at c1;have hsz:=HSZ.out _ (ps (ss:=ss) (k:=j) (by have:=HL.out;omega));rw[hs]at hsz;have HS:=zH hs;subst ha;clear hs;have pu:=(HU.out.below HBj'.out).cell hjn;cases hu:usB ss K j with
               |false=>
                simp only[hu,Bool.and_false]at pu;have HC2:Hid (Own wj gc 168 gc (n*2) (n*2) (yV (usB ss K) ((fun _=>(0:GF))) (j+1))):=zH (HC.out.congr fun t _=>Y9 hu t);have HUU:=zH hu;clear hu;go_wp2_with fail
                go_roundw
                case rel=>exact⟨j+1,by go_num,by omega,HC2,HBj⟩
                case measure=>simp[intOf];omega
               |true=>
                simp only[hu,hjn,Bool.and_true,decide_true]at pu;have e0:=HC.out.cell (i:=j*2) (by omega);have e0f:=HC.out.frozen (j*2);have e1:=HC.out.cell (i:=j*2+1) (by omega);have e1f:=HC.out.frozen (j*2+1);have A1:=HC.out.store (j*2) (.bool true);have HC2:Hid (Own (wj.setCell ⟨gc,j*2,none⟩ (.bool true)) gc 168 gc (n*2) (n*2) (yV (usB ss K) ((fun _=>(0:GF))) (j+1))):=zH (A1.1.congr fun t _=>by
                 rw[<-Zb hu t];by_cases h1:t=j*2+1
                 . subst h1;rw[if_neg (by omega),if_pos rfl];unfold yV;rw[if_neg (by omega),if_neg (by omega)];rfl
                 . rw[if_neg h1])
                have HB2:Hid (Below gc wq (wj.setCell ⟨gc,j*2,none⟩ (.bool true))):=zH (zk HBj.out (Nat.le_refl _) _);have HUU:=zH hu;clear hu A1;unfold yV at e0 e1;rw[if_pos (by omega)]at e0;go_wp2_with fail
                go_roundw
                case rel=>exact⟨j+1,by go_num,by omega,HC2,HB2⟩
                case measure=>simp[intOf];omega
             . obtain rfl:n=j:=by omega
               have hcc:Hid (Reads wj (some ⟨gc,0,none⟩) (vV (usB ss K) ((fun _=>(0:GF))) n)):=zH (Zc HC.out.reads (fun j _ hj=>rfl));have CM:=zH (Q5 (usB ss K) ((fun _=>(0:GF))) n K (some ⟨gc,0,none⟩) n wj (by omega) k1 kn hcc);unfold kN at CM;have HXj:=zH (HX.out.below HBj'.out);have HUj:=zH (HU.out.below HBj'.out);clear HC HBj hcc;go_wp2_with fail
               (with_reducible refine CM.out.mono ?_)
               rintro e w7 ⟨hb7,⟨few,rfl⟩|⟨enough,nofit,rfl⟩|⟨enough,X8,v7,rfl,hown7⟩⟩
               . have HJ:Hid (JoinIs ss n K ByteArray.empty 9):=zH (.inr (.inr (.inl ⟨HRB.out,HSAME.out,few,rfl,rfl⟩)));have HB7:=zH (HBw.out.trans (hb7.mono HBw.out.size));clear few hb7;go_wp2_with fail
                 go_ret2
                 exact⟨_,_,HJ.out,rfl,HB7.out⟩
               . exact absurd (JG _ _ _ _) nofit
               . obtain⟨gr,cr,rfl⟩:=yR hown7 (fun h=>by have:=congrArg List.length h;rw[zC]at this;simp at this;omega);have hrow:Own w7 wj.heap.size 5 gr n cr (gfV fun j=>qn ((fun _=>(0:GF))) (pl (usB ss K) n) K (gf j)):=hown7;have HRW:=zH hrow.reads;have hrl:=hrow.lt;have HX7:=HXj.out.below hb7;have HU7:=zH (HUj.out.below hb7);have HGR:Hid (gt≠gr):=zH (by have:=HXj.out.lt;omega);have HB7:Hid (Below gu w w7):=zH (by
                  have h1:=HBw.out.trans (hb7.mono HBw.out.size);rw[<-HGU.out];exact h1)
                 have HEN:=zH enough;have HFT:=zH X8;have HX8:Hid (Own w7 gu 5 gt Q Q (fun x=>.int .u8 ((if x%m<q\/(x%m=q/\x / m<0) then qr ss K n (x%m) (x / m) else 0:Nat):Int))):=zH (HX7.congr fun x _=>by
                  by_cases h1:x%m<q
                  . rw[if_pos h1,if_pos (.inl h1)]
                  . rw[if_neg h1,if_neg (fun hh=>by
                     rcases hh with hh|⟨_,hh⟩
                     . exact h1 hh
                     . exact absurd hh (Nat.not_lt_zero _))])
                 clear enough X8 hown7 hrow hrl HX7 hb7 HXj HUj CM;go_wp2_with fail
                 go_loopw [111] (fun vj wr=>∃j:Nat,vj=.int .i64 j/\j<=K/\Hid (Own wr gu 5 gt Q Q (fun x=>.int .u8 ((if x%m<q\/(x%m=q/\x / m<j) then qr ss K n (x%m) (x / m) else 0:Nat):Int)))/\Hid (Own wr gu 4 gu n n (fun j=>.bool (decide (j<n)&&usB ss K j)))/\Hid (Reads wr (some ⟨gr,0,none⟩) (zX n (gfV fun j=>qn ((fun _=>(0:GF))) (pl (usB ss K) n) K (gf j))))/\Hid (Below gu w wr)) (fun vj _=>K-(intOf vj).toNat)
                 case atStart=>exact⟨0,rfl,by omega,HX8,HU7,HRW,HB7⟩
                 case round=>
                  clear HX8 HU7 HRW HB7 HX HU HB HBw HB' HBj';obtain⟨j,rfl,hj,HX,HU,HRW,HB⟩:=hrel;obtain⟨wz,rfl⟩:∃wz,wz=wr:=⟨_,rfl⟩
                  by_cases hjK:j<K
                  . have HX9:Hid (Own wz gu 5 gt Q Q (fun x=>.int .u8 ((if x%m<q\/(x%m=q/\x / m<j+1) then qr ss K n (x%m) (x / m) else 0:Nat):Int))):=zH (HX.out.congr fun x hx=>by have:=HQ0.out;omega);go_wp2_with fail
                    go_roundw
                    case rel=>exact⟨j+1,by go_num,by omega,HX9,HU,HRW,HB⟩
                    case measure=>simp[intOf];omega
                  . obtain rfl:K=j:=by omega
                    have HX9:Hid (Own wz gu 5 gt Q Q (fun x=>.int .u8 ((if x%m<q+1 then qr ss K n (x%m) (x / m) else 0:Nat):Int))):=zH (HX.out.congr fun x hx=>by
                     have:=HQ0.out;omega)
                    have HF9:Hid (∀i,i<q+1->True):=zH (fun _ _=>trivial);go_wp2_with fail
                    go_roundw
                    case rel=>exact⟨q+1,by go_num,by omega,HX9,HU,HF9,zH (.inr HEN.out),HB⟩
                    case measure=>simp[intOf];omega
          . have hqm:q=1:=by omega
            have hK9:Hid (K<=(qz ss K n).length):=zH (by rcases HK.out with h1|h1;exact absurd h1 (by omega);exact h1);have htQ:t<=Q:=by
             have h1:=QM (T:=t) k1;rw[show yZ t K=m from HMD.out,Nat.mul_comm,HQ.out]at h1;exact h1
            have RR:Reads wq (some ⟨gt,0,none⟩) (zX t fun x=>.int .u8 (kO ss K n x:Nat)):=fun x u hu=>by
             have hx:x<t:=by have:=(List.getElem?_eq_some_iff.1 hu).1;rwa [zC]at this
             rw[zG _ hx]at hu;cases hu;refine⟨gt,0,rfl,?_⟩;rw[Nat.zero_add,HX.out.cell (i:=x) (by omega)];unfold kO;rw[HLM.out,if_pos (by have:=HQ0.out;omega)]
            have KC:=pt t (kO ss K n) (some ⟨gt,0,none⟩) Q wq (fun x _=>Ky _ _ _ _ _) (fun h=>by cases h) RR;have HJ:Hid (JoinIs ss n K (zE t (kO ss K n)) 0):=zH (.inr (.inr (.inr (.inr ⟨HRB.out,HSAME.out,hK9.out,fun i hi=>absurd hi (by rw[HLM.out,HM0.out];omega),by rw[HLT.out],rfl⟩))));obtain⟨S,hS⟩:∃S,zE t (kO ss K n)=S:=⟨_,rfl⟩
            rw[hS]at KC HJ;have HQM:=zH hqm;have c0:(0:Int)<=(t:Int):=by omega
            have c1:(t:Int)<=(Q:Int):=by omega
            clear hS RR hqm;go_wp2_with fail
            go_ret2
            exact⟨_,_,HJ.out,rfl,HB'.out⟩
       . have hm1:1<=m:=by omega
         obtain⟨Q,hQ⟩:∃Q,K*m=Q:=⟨_,rfl⟩
         have hQb:Q<=600:=by rw[<-hQ];exact Nat.mul_le_mul (show K<=10 by omega) hmb
         have q1:(K:Int)*(m:Int)=(Q:Int):=by rw[<-hQ];push_cast;rfl
         have q2:IntKind.i64.wrap (Q:Int)=(Q:Int):=IntWalk.i64_in _ (by omega);have HQ:=zH hQ;clear hQ;have d1:decide ((m:Int)<1)=false:=by simp;omega
         have d1':¬((m:Int)<1):=by omega
         have d2:decide ((0:Int)<(m:Int))=true:=by simp;omega
         have dm:decide ((t:Int)<0)=false:=by simp
         have dm':¬((t:Int)<0):=by omega
         go_wp2_with fail
         (with_reducible refine(CZ.out _).mono ?_)
         rintro e w3 ⟨rfl,rfl⟩;go_wp2_with (first
          |(at_make;refine qh rfl _ _ 113 rfl gu 5 _ 1 Tryz.underlying113 vO rfl _ _ _ _ Q (by rfl) (by rfl) rfl rfl (by omega) (by unfold maxLen;omega) (by have:=HU.out.lt;omega) ?_;intro w4 hown hg4;have HX0:=zH hown;have HB4:=zH (HB.out.grown hg4 (by rw[<-HGU.out];exact HB'.out.size) (fun q hq=>by cases hq));have HU4:=zH (World.ownsRow.kept (HU.out) hg4 (.inr (fun h=>by cases h)));clear hown hg4)
          |fail)
         obtain⟨gt,hgt⟩:∃gt,wo.heap.size=gt:=⟨_,rfl⟩
         have HUG:Hid (gu≠gt):=zH (by rw[<-hgt];have:=HU.out.lt;omega);rw[hgt]at HX0 ⊢;clear hgt HB HU HB';have HU5:Hid (Own w4 gu 4 gu n n (fun j=>.bool (decide (j<n)&&usB ss K j))):=HU4;have HX5:Hid (Own w4 gu 5 gt Q Q (fun x=>.int .u8 ((if x%m<0 then qr ss K n (x%m) (x / m) else 0:Nat):Int))):=zH (HX0.out.congr fun x _=>by rw[if_neg (by omega)];rfl);clear HX0 HU4;go_wp2_with fail
         go_loopw [69] (fun vq wr=>∃q:Nat,vq=.int .i64 q/\q<=m/\Hid (Own wr gu 5 gt Q Q (fun x=>.int .u8 ((if x%m<q then qr ss K n (x%m) (x / m) else 0:Nat):Int)))/\Hid (Own wr gu 4 gu n n (fun j=>.bool (decide (j<n)&&usB ss K j)))/\Hid (∀i,i<q->zaP ss K n i)/\Hid (q=0\/K<=(qz ss K n).length)/\Hid (Below gu w wr)) (fun vq _=>m-(intOf vq).toNat)
         case atStart=>exact⟨0,rfl,by omega,HX5,HU5,zH (fun i hi=>by omega),zH (.inl rfl),HB4⟩
         case round=>
          clear HX5 HU5 HB4;obtain⟨q,rfl,hq,HX,HU,HF,HK,HB⟩:=hrel;obtain⟨wq,rfl⟩:∃wq,wq=wr:=⟨_,rfl⟩
          have HB':Hid (Below w.heap.size w wq):=zH (by rw[HGU.out];exact HB.out);by_cases hqR:q<m
          . go_wp2_with (first
              |(at_make;refine Qi rfl _ _ 166 rfl wq.heap.size 168 _ 2 2 Tryz.underlying166 Zf _ _ _ _ n (by rfl) (by rfl) rfl rfl (by omega) (by unfold maxLen;omega) (Nat.le_refl _) ?_;intro w5 hown hg5;have HC0:=zH (Za (f:=yV (usB ss K) (bJ ss K q) 0) hown (by omega) (pY _ _ n));have HB5:=zH (zQ hg5 (Nat.le_refl _) (fun q hq=>by cases hq));clear hown hg5)
              |fail)
            obtain⟨gc,hgc⟩:∃gc,wq.heap.size=gc:=⟨_,rfl⟩
            have HGC:=zH hgc;have hxl:=HX.out.lt;have hul:=HU.out.lt;have HNE:Hid (gt≠gc/\gu≠gc):=zH (by omega);have HC5:Hid (Own w5 gc 168 gc (n*2) (n*2) (yV (usB ss K) (bJ ss K q) 0)):=zH (by rw[<-hgc];exact HC0.out);have HB5':Hid (Below gc wq w5):=zH (by rw[<-hgc];exact HB5.out);rw[hgc];clear HC0 HB5 hgc hxl hul;go_wp2_with fail
            go_loopw [77] (fun vj wr=>∃j:Nat,vj=.int .i64 j/\j<=n/\Hid (Own wr gc 168 gc (n*2) (n*2) (yV (usB ss K) (bJ ss K q) j))/\Hid (Below gc wq wr)) (fun vj _=>n-(intOf vj).toNat)
            case atStart=>exact⟨0,rfl,by omega,HC5,HB5'⟩
            case round=>
             clear HC5 HB5';obtain⟨j,rfl,hj,HC,HBj⟩:=hrel;obtain⟨wj,rfl⟩:∃wj,wj=wr:=⟨_,rfl⟩
             have HBj':Hid (Below wq.heap.size wq wj):=zH (by rw[HGC.out];exact HBj.out);have HBw:=zH (HB'.out.trans (HBj'.out.mono HB'.out.size));by_cases hjn:j<n
             . obtain⟨b1,o1,ha,c1⟩:=(HR.out.below HBw.out) j _ (j4 (by have:=HL.out;omega));obtain⟨s,hs⟩:∃s,sAt ss j=s:=⟨_,rfl⟩
               rw[hs]at c1;have hsz:=HSZ.out _ (ps (ss:=ss) (k:=j) (by have:=HL.out;omega));rw[hs]at hsz;have HS:=zH hs;subst ha;clear hs;have pu:=(HU.out.below HBj'.out).cell hjn;cases hu:usB ss K j with
               |false=>
                simp only[hu,Bool.and_false]at pu;have HC2:Hid (Own wj gc 168 gc (n*2) (n*2) (yV (usB ss K) (bJ ss K q) (j+1))):=zH (HC.out.congr fun t _=>Y9 hu t);have HUU:=zH hu;clear hu;go_wp2_with fail
                go_roundw
                case rel=>exact⟨j+1,by go_num,by omega,HC2,HBj⟩
                case measure=>simp[intOf];omega
               |true=>
                simp only[hu,hjn,Bool.and_true,decide_true]at pu;have e0:=HC.out.cell (i:=j*2) (by omega);have e0f:=HC.out.frozen (j*2);have e1:=HC.out.cell (i:=j*2+1) (by omega);have e1f:=HC.out.frozen (j*2+1);have A1:=HC.out.store (j*2) (.bool true);have hsize:=pD hu;rw[HS.out]at hsize;have hfj:qd ss j=t:=(HSAME.out j (qv.2 ⟨hjn,hu⟩)).trans HLT.out;rw[hfj]at hsize;have hsm:s.size=5+m:=hsize.1.trans (by rw[<-HMD.out];rfl);obtain⟨x,hx⟩:∃x,1+q=x:=⟨_,rfl⟩
                have ex:(1:Int)+(q:Int)=(x:Int):=by omega
                have wx:IntKind.i64.wrap (x:Int)=(x:Int):=IntWalk.i64_in _ (by omega);have hxs:x<s.size:=by omega
                have hbs:=yT s x hxs;have hv:=zdB (i:=q) hu;rw[HS.out,hx]at hv;obtain⟨y,hy⟩:∃y,zJ s x=y:=⟨_,rfl⟩
                rw[hy]at hbs hv;have A2:=A1.1.store (j*2+1) (.int .u8 (y:Int));have e2:=A1.1.cell (i:=j*2+1) (by omega);rw[if_neg (by omega)]at e2;have e2f:=A1.1.frozen (j*2+1);have HC2:Hid (Own ((wj.setCell ⟨gc,j*2,none⟩ (.bool true)).setCell ⟨gc,j*2+1,none⟩ (.int .u8 (y:Int))) gc 168 gc (n*2) (n*2) (yV (usB ss K) (bJ ss K q) (j+1))):=zH (A2.1.congr fun t _=>by rw[<-Zb hu t,hv]);have HB2:Hid (Below gc wq ((wj.setCell ⟨gc,j*2,none⟩ (.bool true)).setCell ⟨gc,j*2+1,none⟩ (.int .u8 (y:Int)))):=zH (zk (zk HBj.out (Nat.le_refl _) _) (Nat.le_refl _) _);have HUU:=zH hu;have HY:=zH hy;have HV:=zH hv;clear hu A1 A2 hsize hfj hx hy hv;unfold yV at e0 e1 e2;rw[if_pos (by omega)]at e0;rw[if_neg (by omega)]at e1 e2;go_wp2_with fail
                go_roundw
                case rel=>exact⟨j+1,by go_num,by omega,HC2,HB2⟩
                case measure=>simp[intOf];omega
             . obtain rfl:n=j:=by omega
               have hcc:Hid (Reads wj (some ⟨gc,0,none⟩) (vV (usB ss K) (bJ ss K q) n)):=zH (Zc HC.out.reads (fun j _ hj=>zfo hj));have CM:=zH (Q5 (usB ss K) (bJ ss K q) n K (some ⟨gc,0,none⟩) n wj (by omega) k1 kn hcc);unfold kN at CM;have HXj:=zH (HX.out.below HBj'.out);have HUj:=zH (HU.out.below HBj'.out);clear HC HBj hcc;go_wp2_with fail
               (with_reducible refine CM.out.mono ?_)
               rintro e w7 ⟨hb7,⟨few,rfl⟩|⟨enough,nofit,rfl⟩|⟨enough,X8,v7,rfl,hown7⟩⟩
               . have HJ:Hid (JoinIs ss n K ByteArray.empty 9):=zH (.inr (.inr (.inl ⟨HRB.out,HSAME.out,few,rfl,rfl⟩)));have HB7:=zH (HBw.out.trans (hb7.mono HBw.out.size));clear few hb7;go_wp2_with fail
                 go_ret2
                 exact⟨_,_,HJ.out,rfl,HB7.out⟩
               . have HJ:Hid (JoinIs ss n K ByteArray.empty 8):=zH (.inr (.inr (.inr (.inl ⟨HRB.out,HSAME.out,enough,fun hall=>nofit (hall q (by rw[HLM.out];exact hqR)),rfl,rfl⟩))));have HB7:=zH (HBw.out.trans (hb7.mono HBw.out.size));clear nofit enough hb7;go_wp2_with fail
                 go_ret2
                 exact⟨_,_,HJ.out,rfl,HB7.out⟩
               . obtain⟨gr,cr,rfl⟩:=yR hown7 (fun h=>by have:=congrArg List.length h;rw[zC]at this;simp at this;omega);have hrow:Own w7 wj.heap.size 5 gr n cr (gfV fun j=>qn (bJ ss K q) (pl (usB ss K) n) K (gf j)):=hown7;have HRW:=zH hrow.reads;have hrl:=hrow.lt;have HX7:=HXj.out.below hb7;have HU7:=zH (HUj.out.below hb7);have HGR:Hid (gt≠gr):=zH (by have:=HXj.out.lt;omega);have HB7:Hid (Below gu w w7):=zH (by
                  have h1:=HBw.out.trans (hb7.mono HBw.out.size);rw[<-HGU.out];exact h1)
                 have HEN:=zH enough;have HFT:=zH X8;have HX8:Hid (Own w7 gu 5 gt Q Q (fun x=>.int .u8 ((if x%m<q\/(x%m=q/\x / m<0) then qr ss K n (x%m) (x / m) else 0:Nat):Int))):=zH (HX7.congr fun x _=>by
                  by_cases h1:x%m<q
                  . rw[if_pos h1,if_pos (.inl h1)]
                  . rw[if_neg h1,if_neg (fun hh=>by
                     rcases hh with hh|⟨_,hh⟩
                     . exact h1 hh
                     . exact absurd hh (Nat.not_lt_zero _))])
                 clear enough X8 hown7 hrow hrl HX7 hb7 HXj HUj CM;go_wp2_with fail
                 go_loopw [111] (fun vj wr=>∃j:Nat,vj=.int .i64 j/\j<=K/\Hid (Own wr gu 5 gt Q Q (fun x=>.int .u8 ((if x%m<q\/(x%m=q/\x / m<j) then qr ss K n (x%m) (x / m) else 0:Nat):Int)))/\Hid (Own wr gu 4 gu n n (fun j=>.bool (decide (j<n)&&usB ss K j)))/\Hid (Reads wr (some ⟨gr,0,none⟩) (zX n (gfV fun j=>qn (bJ ss K q) (pl (usB ss K) n) K (gf j))))/\Hid (Below gu w wr)) (fun vj _=>K-(intOf vj).toNat)
                 case atStart=>exact⟨0,rfl,by omega,HX8,HU7,HRW,HB7⟩
                 case round=>
                  clear HX8 HU7 HRW HB7 HX HU HB HBw HB' HBj';obtain⟨j,rfl,hj,HX,HU,HRW,HB⟩:=hrel;obtain⟨wz,rfl⟩:∃wz,wz=wr:=⟨_,rfl⟩
                  by_cases hjK:j<K
                  . obtain⟨br,orr,hra,cr1⟩:=HRW.out j _ (zG _ (show j<n by omega));cases hra;rw[Nat.zero_add]at cr1;have hcv:gfV (fun j=>qn (bJ ss K q) (pl (usB ss K) n) K (gf j)) j=.int .u8 (qr ss K n q j:Nat):=rfl;rw[hcv]at cr1;obtain⟨y,hy⟩:∃y,qr ss K n q j=y:=⟨_,rfl⟩
                    rw[hy]at cr1;have hjm:j*m+q<Q:=by
                     have h1:(j+1)*m<=K*m:=Nat.mul_le_mul_right m (by omega);rw[HQ.out,Nat.succ_mul]at h1;omega
                    obtain⟨f1,hf1⟩:∃f,j*m=f:=⟨_,rfl⟩
                    obtain⟨f2,hf2⟩:∃f,f1+q=f:=⟨_,rfl⟩
                    have g1:(j:Int)*(m:Int)=(f1:Int):=by rw[<-hf1];push_cast;rfl
                    have g2:(f1:Int)+(q:Int)=(f2:Int):=by omega
                    have hfm:f2%m=q:=by rw[<-hf2,<-hf1,Nat.mul_comm,Nat.mul_add_mod,Nat.mod_eq_of_lt hqR]
                    have hfd:f2 / m=j:=by rw[<-hf2,<-hf1,Nat.mul_comm,Nat.mul_add_div (by omega),Nat.div_eq_of_lt hqR,Nat.add_zero]
                    rw[hf1,hf2]at hjm;have g3:IntKind.i64.wrap (f1:Int)=(f1:Int):=IntWalk.i64_in _ (by omega);have g4:IntKind.i64.wrap (f2:Int)=(f2:Int):=IntWalk.i64_in _ (by omega);have px:=HX.out.cell hjm;have pf:=HX.out.frozen f2;have A9:=HX.out.store f2 (.int .u8 (y:Int));have HX9:Hid (Own (wz.setCell ⟨gt,f2,none⟩ (.int .u8 (y:Int))) gu 5 gt Q Q (fun x=>.int .u8 ((if x%m<q\/(x%m=q/\x / m<j+1) then qr ss K n (x%m) (x / m) else 0:Nat):Int))):=zH (A9.1.congr fun x _=>by
                     by_cases hxf:x=f2
                     . subst hxf;rw[if_pos rfl,if_pos (.inr ⟨hfm,by omega⟩),hfm,hfd,hy]
                     . rw[if_neg hxf];have hne:¬(x%m=q/\x / m=j):=fun⟨h1,h2⟩=>hxf (by
                        rw[<-Nat.div_add_mod x m,h1,h2,<-hf2,<-hf1,Nat.mul_comm])
                       have hiff:(x%m<q\/(x%m=q/\x / m<j))↔(x%m<q\/(x%m=q/\x / m<j+1)):=by omega
                       simp only[hiff])
                    have HU9:=zH (HU.out.kept A9.2 HUG.out);have HR9:=zH (HRW.out.grown A9.2 (fun a ha=>by cases ha;intro he;injection he with he;exact HGR.out he.symm));have HB9:Hid (Below gu w (wz.setCell ⟨gt,f2,none⟩ (.int .u8 (y:Int)))):=zH (zk HB.out (HX.out.lt.1) _);have r0:(0:Int)<=(f2:Int):=by omega
                    have r1:(f2:Int)<(Q:Int):=by omega
                    clear hcv hy hf1 hf2 A9 hfm hfd px;have px:=HX.out.cell hjm;go_wp2_with fail
                    go_roundw
                    case rel=>exact⟨j+1,by go_num,by omega,HX9,HU9,HR9,HB9⟩
                    case measure=>simp[intOf];omega
                  . obtain rfl:K=j:=by omega
                    have HX9:Hid (Own wz gu 5 gt Q Q (fun x=>.int .u8 ((if x%m<q+1 then qr ss K n (x%m) (x / m) else 0:Nat):Int))):=zH (HX.out.congr fun x hx=>by
                     have h1:x / m<K:=by rw[Nat.div_lt_iff_lt_mul (by omega),HQ.out];exact hx
                     have hiff:(x%m<q\/(x%m=q/\x / m<K))↔(x%m<q+1):=by omega
                     simp only[hiff])
                    have HF9:Hid (∀i,i<q+1->zaP ss K n i):=zH (fun i hi=>by
                     by_cases hiq:i=q
                     . subst hiq;exact HFT.out
                     . exact HF.out i (by omega))
                    go_wp2_with fail
                    go_roundw
                    case rel=>exact⟨q+1,by go_num,by omega,HX9,HU,HF9,zH (.inr HEN.out),HB⟩
                    case measure=>simp[intOf];omega
          . have hqm:q=m:=by omega
            have hK9:Hid (K<=(qz ss K n).length):=zH (by rcases HK.out with h1|h1;exact absurd h1 (by omega);exact h1);have htQ:t<=Q:=by
             have h1:=QM (T:=t) k1;rw[show yZ t K=m from HMD.out,Nat.mul_comm,HQ.out]at h1;exact h1
            have RR:Reads wq (some ⟨gt,0,none⟩) (zX t fun x=>.int .u8 (kO ss K n x:Nat)):=fun x u hu=>by
             have hx:x<t:=by have:=(List.getElem?_eq_some_iff.1 hu).1;rwa [zC]at this
             rw[zG _ hx]at hu;cases hu;refine⟨gt,0,rfl,?_⟩;rw[Nat.zero_add,HX.out.cell (i:=x) (by omega)];unfold kO;rw[HLM.out,if_pos (by rw[hqm];exact Nat.mod_lt _ (by omega))]
            have KC:=pt t (kO ss K n) (some ⟨gt,0,none⟩) Q wq (fun x _=>Ky _ _ _ _ _) (fun h=>by cases h) RR;have HJ:Hid (JoinIs ss n K (zE t (kO ss K n)) 0):=zH (.inr (.inr (.inr (.inr ⟨HRB.out,HSAME.out,hK9.out,fun i hi=>HF.out i (by rw[HLM.out]at hi;omega),by rw[HLT.out],rfl⟩))));obtain⟨S,hS⟩:∃S,zE t (kO ss K n)=S:=⟨_,rfl⟩
            rw[hS]at KC HJ;have HQM:=zH hqm;have c0:(0:Int)<=(t:Int):=by omega
            have c1:(t:Int)<=(Q:Int):=by omega
            clear hS RR hqm;go_wp2_with fail
            go_ret2
            exact⟨_,_,HJ.out,rfl,HB'.out⟩
end Go.Proofs.YtmgfbmkfomebcaaGreatDoor
