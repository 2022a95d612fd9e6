/- TopHeal: the plain law. What is made of the pieces of a text, one of them missing, is the text; a store that has lost one node's pieces is mended. -/
import Derived.Test.YtmgfbmkfomebcaaGreatDoorDkM12
import Derived.Test.YtmgfbmkfomebcaaGreatDoorRows
import Derived.Test.YtmgfbmkfomebcaaGreatDoorDkM11
import Derived.StillTailTactics
import Derived.Test.YtmgfbmkfomebcaaGreatDoorDkM7
import Derived.Test.YtmgfbmkfomebcaaGreatDoorDkM2
import Derived.Test.YtmgfbmkfomebcaaGreatDoorDkM13
import Derived.Deep.RegionHeld3
set_option linter.unusedVariables false
set_option linter.unusedSimpArgs false
set_option maxRecDepth 100000
set_option maxHeartbeats 4000000
namespace Go.Proofs.YtmgfbmkfomebcaaGreatDoor
open Go.RowKit
theorem zbf{a b:ByteArray}{k:Nat}(h:k<a.size):zJ (a++b) k=zJ a k:=by
 unfold zJ;have e:(a++b).data.toList=a.data.toList++b.data.toList:=by rw[ByteArray.data_append,Array.toList_append]
 rw[e,List.getD_eq_getElem?_getD,List.getD_eq_getElem?_getD,List.getElem?_append_left (by simpa using h)]
def ks(l:List Nat):List Value:=l.map fun(a:Nat)=>Value.int .u8 ((a:Nat):Int)
theorem zap(l:List Nat)(a:Nat):ks (l++[a])=ks l++[.int .u8 (a:Int)]:=by simp[ks]
theorem zbg{P:List Nat}{k:Nat}(hk:k<=P.length)(hP:∀a∈P,a<256):(ks P).take k=zX k (gfV (atP P)):=by
 apply List.ext_getElem?;intro j;by_cases hj:j<k
 . rw[zG _ hj,List.getElem?_take_of_lt hj];unfold ks gfV atP;rw[List.getElem?_map,List.getD_eq_getElem?_getD,List.getElem?_eq_getElem (by omega)];simp only[Option.map_some,Option.getD_some];rw[ko (hP _ (List.getElem_mem _))]
 . rw[List.getElem?_eq_none (by simp[ks];omega),List.getElem?_eq_none (by rw[zC];omega)]
theorem zbh{P:List Nat}{k:Nat}(B:Nat->GF)(hk:k<=P.length):(vB B P).take k=zX k (gfV (byP B P)):=by
 rw[<-VA B hk];unfold vB;rw[List.map_take]
theorem zbK{w:World}{base e size:Nat}{ao:Option Addr}{n m cap:Nat}{xs:List Value}(h:w.ownsRow base e size (.slice ao n cap) m xs):n<=cap/\cap<=maxLen:=by
 rcases h.2 with⟨hv,_⟩|⟨g,c,cur,hv,_,_,h1,h2,_⟩
 . cases hv;exact⟨Nat.le_refl _,by unfold maxLen;omega⟩
 . cases hv;exact⟨h1,h2⟩
theorem Reads.take{w:World}{ao:Option Addr}{xs:List Value}(h:Reads w ao xs)(k:Nat):Reads w ao (xs.take k):=by
 intro j u hu;rw[List.getElem?_take]at hu
 split at hu
 . exact h j u hu
 . cases hu
theorem zbi(H:Nat->Bool)(B:Nat->GF)(n k:Nat)(ao:Option Addr)(cap:Nat)(w:World)(hn:n<=20)(hk1:1<=k)(hk2:k<=n)(hR:Hid (Reads w ao (vV H B n))):
 Calls Tryz.prog 116 #[.slice ao n cap,.int .i64 k] w (kN H B (pd H n n) n k w):=by
 have hnw:IntKind.i64.wrap ((n:Int)-1)=(n:Int)-1:=IntWalk.i64_in _ (by omega);go_enter Tryz.func116,Tryz.ntmps116
 go_wp2_with fail
 go_loopw [6,7,8] (fun va vb vi wr=>∃s:Nat,vi=.int .i64 ((n:Int)-1-s)/\s<=n/\∃L:List Nat,Hid (L=pd H n s)/\L.length<=n/\Hid (wr.ownsRow w.heap.size 5 1 va L.length (ks L))/\Hid (wr.ownsRow w.heap.size 5 1 vb L.length (vB B L))/\Hid (Apart va vb)/\Hid (Below w.heap.size w wr)) (fun _ _ vi _=>(intOf vi+1).toNat)
 case atStart=>exact⟨0,by simp,by omega,[],zH (zei H n).symm,by simp,zH (World.ownsRow_nil _ _ _ _),zH (World.ownsRow_nil _ _ _ _),(fun g h=>by cases h),Below.refl _ _⟩
 case round=>
  obtain⟨s,rfl,hsn,L,hL,hLn,hra,hrb,hap,hb⟩:=hrel;by_cases hs:s<n
  . obtain⟨i,hi⟩:∃i:Nat,n-1-s=i:=⟨_,rfl⟩
    have hin:i<n:=by omega
    have e0:(n:Int)-1-s=(i:Int):=by omega
    have e1:(i:Int)-1=(n:Int)-1-((s+1:Nat):Int):=by omega
    have ew:IntKind.i64.wrap ((i:Int)-1)=(i:Int)-1:=IntWalk.i64_in _ (by omega);have hii:(i:Int)<n:=by omega
    have hi0:(0:Int)<=i:=by omega
    have hsucc:=zej H hs;rw[hi]at hsucc;have HSU:=zH hsucc;clear hsucc hi;rw[e0];obtain⟨c1,c2⟩:=pA H B hin;obtain⟨b1,o1,rfl,c1⟩:=hR.out _ _ c1;obtain⟨b2,o2,ha2,c2⟩:=hR.out _ _ c2;injection ha2 with ha2
    injection ha2 with hb2 ho2
    subst hb2 ho2;rw[<-Nat.add_assoc]at c2;have hlt:b1<w.heap.size:=World.block_lt_of_cell? w _ c2
    replace c1:=(hb.out.cell (World.block_lt_of_cell? w _ c1)).trans c1
    replace c2:=(hb.out.cell hlt).trans c2
    have hnea:Hid (some b1≠Value.ownBlock u6):=fun he=>by have:=(hra.out.lt b1 he.symm).1;omega
    have hneb:Hid (some b1≠Value.ownBlock u7):=fun he=>by have:=(hrb.out.lt b1 he.symm).1;omega
    clear hlt;obtain⟨p,hp⟩:∃p,H i=p:=⟨_,rfl⟩
    rw[hp]at c1;have HP:=zH hp;clear hp;cases p
    . have hL2:Hid (L=pd H n (s+1)):=by
       show _=_;rw[hL.out,HSU.out,if_neg (by rw[HP.out];decide)]
      have HE:=zH e1;clear e0 e1;go_wp2_with fail
      go_roundw
      case rel=>exact⟨s+1,by rw[HE.out],by omega,L,hL2,hLn,hra,hrb,hap,hb⟩
      case measure=>simp[intOf]<;>omega
    . have wi:=wrap_u8 i (by omega);have hL2:Hid (L++[i]=pd H n (s+1)):=by
       show _=_;rw[hL.out,HSU.out,if_pos (by rw[HP.out])]
      have hm1:Hid (L.length+1<=maxLen):=zH (by unfold maxLen;omega);have hm2:Hid ((L.length+1)*1<=140737488355328):=zH (by omega);have hm3:=hm1;have hm4:=hm2;have HE:=zH e1;clear e0 e1;go_wp2_with fail
      go_region_held3 (fun w'=>w'.cell? ⟨b1,o1+i*2+1,none⟩=some (.int .u8 ((B i).val:Int))) (first|go_keep|(exact(hgr8.cell (by first|go_keep|(simp;done)) hneb.out))|(exact(hgr7.cell (by first|go_keep|(simp;done)) hnea.out)))
       (first
        |(refine kx ?_ (.tmp 24) (.tmp 27) 113 ?_ w.heap.size 5 _ 1 Tryz.underlying113 QX (u6) L.length (ks L) ?_ wr hra.out 5 (u7) L.length (vB B L) hrb.out hap.out w hb.out (Nat.le_refl _) ?_ ?_ (.int .u8 (i:Int)) ?_ ?_ rfl hm1.out hm2.out ?_;(focus rfl);(focus rfl);(focus rfl);(focus (repeat(first|(with_reducible exact Below.refl _ _)|(with_reducible apply zb)|(with_reducible apply zg)|(with_reducible refine Below.alloc ?_ (by simp;try omega) _)|fail)));rotate_left;(focus rfl);(focus (repeat(first|(with_reducible exact zl _ _ _ (by simp;try omega))|(with_reducible apply yu)|(with_reducible apply yO)|(with_reducible apply za)|fail)));intro g7 p7 w7 hr7 hr8 hap7 hb7 hgr7)
        |(refine kx ?_ (.tmp 29) (.tmp 35) 113 ?_ w.heap.size 5 _ 1 Tryz.underlying113 QX (u7) L.length (vB B L) ?_ w7 hr8 5 _ _ _ hr7 hap7.symm w hb7 (Nat.le_refl _) ?_ ?_ (.int .u8 ((B i).val:Int)) ?_ ?_ rfl hm3.out hm4.out ?_;(focus rfl);(focus rfl);(focus rfl);(focus (repeat(first|(with_reducible exact Below.refl _ _)|(with_reducible apply zb)|(with_reducible apply zg)|(with_reducible refine Below.alloc ?_ (by simp;try omega) _)|fail)));rotate_left;(focus rfl);(focus (repeat(first|(with_reducible exact zl _ _ _ (by simp;try omega))|(with_reducible apply yu)|(with_reducible apply yO)|(with_reducible apply za)|(with_reducible refine zY hgr7 ?_ (kX hra.out (by omega)))|fail)));intro g8 p8 w8 hs8 hs7 hap8 hb8 hgr8)
        |fail)
      all_goals
       have HS8:Hid (w8.ownsRow w.heap.size 5 1 (.slice (some ⟨g8,0,none⟩) (L.length+1) p8) (L++[i]).length (vB B (L++[i]))):=by
        show World.ownsRow _ _ _ _ _ _ _;rw[Y0,List.length_append];exact hs8
       have HS7:Hid (w8.ownsRow w.heap.size 5 1 (.slice (some ⟨g7,0,none⟩) (L.length+1) p7) (L++[i]).length (ks (L++[i]))):=by
        show World.ownsRow _ _ _ _ _ _ _;rw[zap,List.length_append];exact hs7
       have HA:=zH hap8.symm;have HB:=zH hb8;have HLn:(L++[i]).length<=n:=by simp;have:=zfw H n (s+1);rw[<-hL2.out]at this;simp at this;omega
       clear hs8 hs7 hap8 hb8 hgr8 hgr7 hb7 hap7 hr7 hr8;go_wp2_with fail
       go_roundw
       case rel=>exact⟨s+1,by rw[HE.out],by omega,L++[i],hL2,HLn,HS7,HS8,HA,HB⟩
       case measure=>simp[intOf]<;>omega
  . have hs2:s=n:=by omega
    subst hs2;have e0:(s:Int)-1-s= -1:=by omega
    rw[e0];obtain⟨P,hP⟩:∃P,pd H s s=P:=⟨_,rfl⟩
    have hPm:∀a∈P,a<256:=fun a ha=>by rw[<-hP]at ha;have:=(zcR (Nat.le_refl _) ha).1;omega
    have hL1:=hL.out;rw[hP]at hL1;have HPP:=zH hP;subst hL1;clear hL hP e0;by_cases hlk:L.length<k
    . have l1:decide ((L.length:Int)<k)=true:=by simp;omega
      have l2:decide (L.length<k)=true:=by simp;omega
      obtain⟨a7,c7,rfl,_,_,_⟩:=zr hra.out;go_wp2_with fail
      go_ret2
      exact⟨hb.out,.inl ⟨by rw[HPP.out];exact hlk,rfl⟩⟩
    . have hkP:k<=L.length:=by omega
      have l1:decide ((L.length:Int)<k)=false:=by simp;omega
      have l2:decide (L.length<k)=false:=by simp;omega
      obtain⟨m,hm⟩:∃m,L.length=m:=⟨_,rfl⟩
      have hne1:ks L≠[]:=fun h=>by have:=congrArg List.length h;simp[ks]at this;subst this;simp at hkP;omega
      have hne2:vB B L≠[]:=fun h=>by have:=congrArg List.length h;simp[vB]at this;subst this;simp at hkP;omega
      obtain⟨g6,c6,hv6⟩:=yR hra.out hne1;obtain⟨g7,c7,hv7⟩:=yR hrb.out hne2;subst hv6;subst hv7;obtain⟨q1,q2⟩:=zbK hra.out;obtain⟨q3,q4⟩:=zbK hrb.out;obtain⟨a7,c7',hv7,ra7,_,_⟩:=zr hra.out;cases hv7;obtain⟨a8,c8',hv8,ra8,_,_⟩:=zr hrb.out;cases hv8;have R7a:=zH ra7;have R8a:=zH ra8;have ra7':=ra7.take k;have ra8':=ra8.take k;rw[zbg hkP hPm]at ra7';rw[zbh B hkP]at ra8';have R7:=zH ra7';have R8:=zH ra8';have hk256:k<=256:=by omega
      have hnod:Hid (∀i j,i<k->j<k->i≠j->atP L i≠atP L j):=fun i j h1 h2 h3=>zcS (by rw[<-HPP.out,pS];exact Vk (vS H s)) hPm i j (by omega) (by omega) h3
      have kc6:(k:Int)<=c6:=by omega
      have kc7:(k:Int)<=c7:=by omega
      have HC:=zH (fun W (hx:Reads W (some ⟨g6,0,none⟩) (zX k (gfV (atP L)))) (hy:Reads W (some ⟨g7,0,none⟩) (zX k (gfV (byP B L))))=>VC (atP L) (byP B L) k s (some ⟨g6,0,none⟩) (some ⟨g7,0,none⟩) c6 c7 W hk1 hk256 (by omega) hnod hx hy);have HPM:=zH hPm;have HKP:=zH hkP;rw[hm]at q1 q3 l1 l2 ⊢;clear ra7 ra8 ra7' ra8' hra hrb hap hlk hne1 hne2 hkP;go_wp2_with fail
      go_still_tail 8,(by kernel_rfl)
      change wpList _ _ _ _ _ (World.drew _);go_wp2_with fail
      refine(HC.out wr.drew R7.out R8.out).mono ?_;rintro e w1 ⟨v,rfl,hO,hb1'⟩;have hb1:Below wr.heap.size wr w1:=(yc wr.heap.size wr 1).trans hb1';clear hb1';obtain⟨ar,cr,rfl,_,_,_⟩:=zr hO;have HO:Hid (w1.ownsRow w.heap.size 5 1 (.slice ar s cr) s (zX s (gfV fun j=>qn B L k (gf j)))):=qm hO hb.out.size;have HRO:Hid (Reads w1 ar (zX s (gfV fun j=>qn B L k (gf j)))):=by
       obtain⟨a,c,hv,h,_⟩:=zr hO;cases hv;exact h
      have R7w:=zH (R7a.out.below hb1);have R8w:=zH (R8a.out.below hb1);have HB1:=zH (hb.out.trans (Below.mono hb1 hb.out.size));clear hO hb1 R7 R8 R7a R8a HC hb;go_wp2_with fail
      go_loopw [10,11,52] (fun _ _ vi wx=>∃i:Nat,vi=.int .i64 i/\i<=m/\Hid (∀j,j<i->qn B L k (gf (L.getD j 0))=B (L.getD j 0))/\∃q,wx=w1.drewN q) (fun _ _ vi _=>m-(intOf vi).toNat)
      case atStart=>exact⟨0,rfl,by omega,zH (by intro a ha;omega),0,rfl⟩
      case round=>
       obtain⟨i,rfl,him,hall,q,rfl⟩:=hrel;by_cases hi:i<m
       . obtain⟨x,hx⟩:∃x,L.getD i 0=x:=⟨_,rfl⟩
         have hxm:x∈L:=by rw[<-hx];exact Qj (by omega)
         have hxs:x<s/\H x=true:=by rw[<-HPP.out]at hxm;exact zcR (Nat.le_refl _) hxm
         obtain⟨hxs,hxH⟩:=hxs;have hLi:L[i]?=some x:=by rw[<-hx,List.getD_eq_getElem?_getD,List.getElem?_eq_getElem (by omega)];rfl
         obtain⟨b1,o1,hb1,c1⟩:=R7w.out i (.int .u8 (x:Int)) (by unfold ks;rw[List.getElem?_map,hLi];rfl);obtain⟨b2,o2,hb2,c2⟩:=R8w.out i (gfV B x) (by unfold vB;rw[List.getElem?_map,hLi];rfl);cases hb1;cases hb2;rw[Nat.zero_add]at c1 c2;obtain⟨b3,o3,rfl,c3⟩:=HRO.out x _ (zG _ hxs);unfold gfV at c2 c3;dsimp only at c3;have hii:(i:Int)<m:=by omega
         have hi0:(0:Int)<=i:=by omega
         have hxx:(x:Int)<s:=by omega
         have hx0:(0:Int)<=x:=by omega
         have HX:=zH hx;have HXH:=zH hxH;have HXS:=zH hxs;by_cases hv:qn B L k (gf x)=B x
         . have hall2:Hid (∀j,j<i+1->qn B L k (gf (L.getD j 0))=B (L.getD j 0)):=by
            intro j hj;rcases Nat.lt_or_ge j i with h|h
            . exact hall.out j h
            . obtain rfl:j=i:=by omega
              rw[HX.out];exact hv
           rw[hv]at c3;have d1:(((B x).val:Int)!=((B x).val:Int))=false:=by simp
           clear hv hx hxm hxH;go_wp2_with fail
           go_quiet (fail)
           go_wp2_with fail
           go_roundw
           case rel=>exact⟨i+1,by go_num,by omega,hall2,_,rfl⟩
           case measure=>simp[intOf];omega
         . obtain⟨y,hy⟩:∃y,(qn B L k (gf x)).val=y:=⟨_,rfl⟩
           rw[hy]at c3;have d1:((y:Int)!=((B x).val:Int))=true:=by
            rw[<-hy];simp only[bne_iff_ne,ne_eq];intro h;exact hv (GF.ext (by omega))
           have hnf:Hid (¬Fit H B L k s):=fun h=>hv (h x hxs hxH)
           clear hv hy hx hxm hxH;go_wp2_with fail
           go_quiet (fail)
           go_wp2_with fail
           go_ret2
           exact⟨zg (zg HB1.out _) _,.inr (.inl ⟨by rw[HPP.out];exact HKP.out,by rw[HPP.out];exact hnf.out,rfl⟩)⟩
       . have hfin:Hid (Fit H B L k s):=by
          intro a ha hh;have ha2:a∈L:=by rw[<-HPP.out,pS,List.mem_reverse,qv];exact⟨ha,hh⟩
          obtain⟨j,hj,he⟩:=List.mem_iff_getElem.1 ha2;have h1:=hall.out j (by omega);rw[List.getD_eq_getElem?_getD,List.getElem?_eq_getElem hj]at h1;simp only[Option.getD_some]at h1;rw[he]at h1;exact h1
         go_wp2_with fail
         go_ret2
         exact⟨zg HB1.out _,.inr (.inr ⟨by rw[HPP.out];exact HKP.out,by rw[HPP.out];exact hfin.out,_,rfl,by rw[HPP.out];exact zi HO.out (yc _ _ _)⟩)⟩
def gfL(f:Nat->GF)(n:Nat):List Int:=(List.range n).map fun j=>((f j).val:Int)
def zf0(H:Nat->Bool)(B:Nat->GF)(n:Nat)(k:Int)(w:World)(e:Ending)(w':World):Prop:=
 ∃am lm cm E,e=.returned (.tuple #[.slice am lm cm,.int .i64 E])/\Below w.heap.size w w'/\
  ((KV 20 n k≠0/\E=KV 20 n k/\lm=0)\/(KV 20 n k=0/\(pl H n).length<k.toNat/\E=9/\am=none/\lm=0/\cm=0)\/
   (KV 20 n k=0/\k.toNat<=(pl H n).length/\¬Fit H B (pl H n) k.toNat n/\E=8/\am=none/\lm=0/\cm=0)\/
   (KV 20 n k=0/\k.toNat<=(pl H n).length/\Fit H B (pl H n) k.toNat n/\E=0/\lm=n/\Reads w' am (zX n (gfV fun j=>qn B (pl H n) k.toNat (gf j)))))
def zgn(cs:List (Bool×Int))(j:Nat):Bool:=(cs.getD j (false,0)).1
def zgw(cs:List (Bool×Int))(j:Nat):GF:=gf (cs.getD j (false,0)).2.toNat
def zgo(zs:List Int)(j:Nat):GF:=gf (zs.getD j 0).toNat
def zf3(ys:Nat->GF)(n:Nat)(N:Int)(w:World)(e:Ending)(w':World):Prop:=
 ∃am lm cm E,e=.returned (.tuple #[.slice am lm cm,.int .i64 E])/\Below w.heap.size w w'/\
  ((zfL n N≠0/\E=zfL n N/\lm=0)\/(zfL n N=0/\E=0/\lm=N.toNat/\Reads w' am (zX N.toNat (gfV fun j=>lag gf ys n (gf j)))))
theorem J8:yb Tryz.prog 3 (.int .i64 0) 1 8:=yf (by kernel_rfl) rfl (by omega)
theorem J9(dn:Nat->Bool)(i:Nat):pl (fun i=> !dn i) (i+1)=if dn i then pl (fun i=> !dn i) i else pl (fun i=> !dn i) i++[i]:=by
 rw[kY];cases dn i<;>rfl
theorem Shf.node4{w:World}{base:Nat}{Av:Nat->Prop}{n k wr r b nb:Nat}{V:Nat->Nat->Value}{st:St}(h:Shf w base Av n k wr r b nb V st){i:Nat}(hi:i<n):
 ∃a0 l0 c0 a1 l1 c1 a2 l2 c2,w.cell? ⟨nb,i*4,none⟩=some (.bool (st.dn i))/\w.cell? ⟨nb,i*4+1,none⟩=some (.slice a0 l0 c0)/\w.cell? ⟨nb,i*4+2,none⟩=some (.slice a1 l1 c1)/\w.cell? ⟨nb,i*4+3,none⟩=some (.slice a2 l2 c2):=by
 obtain⟨a0,c0,e0,_⟩:=h.reads hi (show 0<3 by omega);obtain⟨a1,c1,e1,_⟩:=h.reads hi (show 1<3 by omega);obtain⟨a2,c2,e2,_⟩:=h.reads hi (show 2<3 by omega);exact⟨a0,_,c0,a1,_,c1,a2,_,c2,h.dnc hi,by rw[<-e0];exact h.kpc hi (show 0<3 by omega),by rw[<-e1];exact h.kpc hi (show 1<3 by omega),by rw[<-e2];exact h.kpc hi (show 2<3 by omega)⟩
theorem yN{l:List Nat}{j i:Nat}(h:l[j]?=some i):(zZ l)[j]?=some (.int .i64 (i:Int)):=by
 unfold zZ;rw[List.getElem?_map,h];rfl
def kr(l:List Nat)(w:World)(e:Ending)(w':World):Prop:=
 ∃ao cap,e=.returned (.slice ao l.length cap)/\w'.ownsRow w.heap.size 3 1 (.slice ao l.length cap) l.length (zZ l)/\Below w.heap.size w w'
theorem pj{w:World}{base:Nat}{Av:Nat->Prop}{n k wr r b nb:Nat}{V:Nat->Nat->Value}{st:St}(hn:n<=10)(h:Shf w base Av n k wr r b nb V st):
 Calls Tryz.prog 127 #[.pointer (some ⟨b,0,none⟩)] w (kr (ups n st) w):=by
 have c4:=h.cells.2.2.2.2.1;have HC:=zH (fun i (hi:i<n)=>h.node4 hi);have HNB:Hid (nb<w.heap.size):=zH h.nodes.lt.2;obtain⟨gb,hgb⟩:∃gb,w.heap.size=gb:=⟨_,rfl⟩
 have HGB:=zH hgb;clear h hgb;go_enter Tryz.func127,Tryz.ntmps127
 go_wp2_with fail
 go_loopw [3,4,5,11] (fun vo _ _ vi wr=>∃i:Nat,vi=.int .i64 i/\i<=n/\Hid (wr.ownsRow gb 3 1 vo (pl (fun i=> !st.dn i) i).length (zZ (pl (fun i=> !st.dn i) i)))/\Hid (Below gb w wr)) (fun _ _ _ vi _=>n-(intOf vi).toNat)
 case atStart=>exact⟨0,rfl,by omega,zH (World.ownsRow_nil _ _ _ _),zH (Below.refl _ _)⟩
 case round=>
  obtain⟨i,rfl,hi,HO,HB⟩:=hrel;obtain⟨wo,rfl⟩:∃wo,wo=wr:=⟨_,rfl⟩
  have HB':Hid (Below w.heap.size w wo):=zH (by rw[HGB.out];exact HB.out);by_cases hin:i<n
  . obtain⟨a0,l0,c0,a1,l1,c1,a2,l2,c2,q0,q1,q2,q3⟩:=HC.out i hin;have x0:=(HB'.out.cell (p:=⟨nb,i*4,none⟩) HNB.out).trans q0;have x1:=(HB'.out.cell (p:=⟨nb,i*4+1,none⟩) HNB.out).trans q1;have x2:=(HB'.out.cell (p:=⟨nb,i*4+2,none⟩) HNB.out).trans q2;have x3:=(HB'.out.cell (p:=⟨nb,i*4+3,none⟩) HNB.out).trans q3;clear q0 q1 q2 q3;have hsu:=J9 st.dn i;cases hd:st.dn i with
    |true=>
     rw[hd]at x0 hsu;have HSU:=zH hsu;clear hsu hd;go_wp2_with fail
     go_roundw
     case rel=>exact⟨i+1,by go_num,by omega,zH (by rw[HSU.out];exact zi HO.out ((Below.refl _ _).alloc (Nat.le_refl _) _)),zH (HB.out.alloc (by rw[<-HGB.out];exact HB'.out.size) _)⟩
     case measure=>simp[intOf];omega
    |false=>
     rw[hd]at x0 hsu;have HSU:=zH hsu;clear hsu hd;have hpl:=Yp (fun i=> !st.dn i) i;have hbx:Below wo.heap.size wo (wo.alloc (.cells #[.bool false,.slice a0 l0 c0,.slice a1 l1 c1,.slice a2 l2 c2] 187)):=(Below.refl _ _).alloc (Nat.le_refl _) _;have HOx:=zH (zi HO.out hbx);have HBx:Hid (Below gb w (wo.alloc (.cells #[.bool false,.slice a0 l0 c0,.slice a1 l1 c1,.slice a2 l2 c2] 187))):=zH (HB.out.alloc (by rw[<-HGB.out];exact HB'.out.size) _);clear hbx;go_wp2_with (first
      |(at_builtin;go_loud (refine yr rfl (.tmp 19) (.tmp 21) 62 rfl gb 3 _ 1 8 Tryz.underlying62 J8 _ _ _ (by rfl) HOx.out [.int .i64 (i:Int)] (by rw[World.size_alloc];rfl) rfl (by intro u hu;simp at hu;subst hu;rfl) (by unfold maxLen;omega) (by omega) (by rw[<-HGB.out];exact HBx.out.size) ?_);intro v5 w5 hown5 hgr5 hb5;have HO5:Hid (w5.ownsRow gb 3 1 v5 (pl (fun i=> !st.dn i) (i+1)).length (zZ (pl (fun i=> !st.dn i) (i+1)))):=zH (by rw[HSU.out];simp only[Bool.false_eq_true,if_false];rw[List.length_append,vW];exact hown5);have HB5:=zH (HBx.out.trans hb5);clear hown5 hgr5 hb5)
      |fail)
     go_roundw
     case rel=>exact⟨i+1,by go_num,by omega,HO5,HB5⟩
     case measure=>simp[intOf];omega
  . obtain rfl:n=i:=by omega
    obtain⟨ao,cap,rfl,_,_,_⟩:=zr HO.out;go_wp2_with fail
    go_ret
    exact⟨ao,cap,rfl,by rw[HGB.out];exact HO.out,HB'.out⟩
def jv(b:Bool)(w:World)(e:Ending)(w':World):Prop:=e=.returned (.bool b)/\w'=w
theorem vp(key:Int)(w:World):Calls Tryz.prog 92 #[.int .i64 key] w (jv (decide (0<=key)&&decide (key<3)) w):=by
 unfold jv;by_cases h1:0<=key
 . have d1:decide (0<=key)=true:=decide_eq_true h1;obtain⟨t,ht⟩:∃t,decide (key<3)=t:=⟨_,rfl⟩
   rw[d1,ht];clear h1;go_enter Tryz.func92,Tryz.ntmps92
   go_wp2_with fail
   go_ret
   exact⟨rfl,rfl⟩
 . have d1:decide (0<=key)=false:=decide_eq_false h1;rw[d1];clear h1;go_enter Tryz.func92,Tryz.ntmps92
   go_wp2_with fail
   go_ret
   exact⟨rfl,rfl⟩
theorem KP{w:World}{b n:Nat}{ao:Option Addr}(i:Int)(c4:w.cell? ⟨b,4,none⟩=some (.slice ao n n)):
 Calls Tryz.prog 133 #[.pointer (some ⟨b,0,none⟩),.int .i64 i] w (jv (decide (0<=i)&&decide (i<(n:Int))) w):=by
 unfold jv;by_cases h1:0<=i
 . have d1:decide (0<=i)=true:=decide_eq_true h1;obtain⟨t,ht⟩:∃t,decide (i<(n:Int))=t:=⟨_,rfl⟩
   rw[d1,ht];clear h1;go_enter Tryz.func133,Tryz.ntmps133
   go_wp2_with fail
   go_ret
   exact⟨rfl,rfl⟩
 . have d1:decide (0<=i)=false:=decide_eq_false h1;rw[d1];clear h1;go_enter Tryz.func133,Tryz.ntmps133
   go_wp2_with fail
   go_ret
   exact⟨rfl,rfl⟩
def KQ(n k wr:Nat)(st:St)(text:ByteArray)(w:World)(e:Ending)(w':World):Prop:=
 (qM n wr st text≠0/\e=.returned (.tuple #[.slice none 0 0,.int .i64 (qM n wr st text:Nat)])/\Below w.heap.size w w')\/
 (qM n wr st text=0/\∃g,e=.returned (.tuple #[.slice (some ⟨g,0,none⟩) n n,.int .i64 0])/\Own w' w.heap.size 9 g n n (fun j=>.string (pcs text k j))/\Below w.heap.size w w')
theorem ZK{w:World}{base:Nat}{Av:Nat->Prop}{n k wr r b nb:Nat}{V:Nat->Nat->Value}{st:St}(text:ByteArray)(ht:text.size<=9223372036854775807)(hk:1<=k)(hkn:k<=n)(hn:n<=10)(h:Shf w base Av n k wr r b nb V st):
 Calls Tryz.prog 126 #[.pointer (some ⟨b,0,none⟩),.string text] w (KQ n k wr st text w):=by
 have HS:=zH h;have c0:=h.cells.1;have c1:=h.cells.2.1;have HBL:Hid (b<w.heap.size):=zH h.blt;have CU:Hid (∀W,Below w.heap.size w W->Calls Tryz.prog 127 #[.pointer (some ⟨b,0,none⟩)] W (kr (ups n st) W)):=zH fun W hb=>pj hn (h.below hb)
 unfold kr at CU;clear h;by_cases h60:60<text.size
 . have hE:qM n wr st text=2:=if_pos h60;have hsE:jI text (k:Int) (n:Int)=2:=by
    have hr:qg (k:Int) (n:Int)=true:=by unfold qg;simp;omega
    unfold jI;rw[if_pos hr,if_pos h60]
   have CB:=zH (fun W=>Z5 text (k:Int) (n:Int) W ht (by rw[hsE];decide));unfold zbz at CB;rw[hsE]at CB;have HE:=zH hE;clear hE hsE;go_enter Tryz.func126,Tryz.ntmps126
   go_wp2_with fail
   go_quiet ((go_at_call 131;exact Calls.quiet_of_same (CB.out _)))
   go_wp2_with fail
   go_ret2
   exact .inl ⟨by rw[HE.out];decide,by rw[HE.out];rfl,yc _ _ _⟩
 . have CG:=zH (fun W=>ZB text k n W (by omega) hk hkn hn);unfold QZ at CG;have c2:=HS.out.cells.2.2.1;have c5:=HS.out.cells.2.2.2.2.2;obtain⟨u,hu⟩:∃u,(ups n st).length=u:=⟨_,rfl⟩
   have hul:u<=10:=by have:=kz n st;omega
   have HE:Hid (qM n wr st text=if u<wr then 9 else if st.wr=1000000 then 11 else 0):=zH (by unfold qM;rw[if_neg h60,hu]);rw[hu]at CU;obtain⟨m,hm⟩:∃m,st.wr=m:=⟨_,rfl⟩
   rw[hm]at c5 HE;clear hu hm h60 hk hkn;have hd1:∀W,Below w.heap.size w W->W.cell? ⟨b,2,none⟩=some (.int .i64 (wr:Int)):=fun W hb=>(hb.cell (p:=⟨b,2,none⟩) HBL.out).trans c2
   have hd2:∀W,Below w.heap.size w W->W.cell? ⟨b,5,none⟩=some (.int .i64 (m:Int)):=fun W hb=>(hb.cell (p:=⟨b,5,none⟩) HBL.out).trans c5
   have HD1:=zH hd1;have HD2:=zH hd2;clear hd1 hd2 c2 c5;by_cases g1:u<wr
   . have t1:decide ((u:Int)<(wr:Int))=true:=by simp;omega
     have t1':decide (u<wr)=true:=by simp;omega
     go_enter Tryz.func126,Tryz.ntmps126
     go_wp2_with fail
     go_region_held3 (fun w'=>w'.cell? ⟨b,0,none⟩=some (.int .i64 (n:Int))/\w'.cell? ⟨b,1,none⟩=some (.int .i64 (k:Int))) (first|exact⟨(hb1'.cell (p:=⟨b,0,none⟩) HBL.out).trans c0,(hb1'.cell (p:=⟨b,1,none⟩) HBL.out).trans c1⟩|go_keep) (first|(go_at_call 131;(with_reducible refine(CG.out _).mono ?_);rintro e w1 ⟨g,rfl,hO1,hb1'⟩))
     have HB1:Hid (Below w.heap.size w w1):=zH (by first|exact hb1'|exact(yc w.heap.size w 1).trans hb1');have HO1:=zH hO1;clear hb1' hO1;have x2:=HD1.out _ HB1.out;go_wp2_with fail
     go_region_held3 (fun w'=>w'.cell? ⟨b,2,none⟩=some (.int .i64 (wr:Int))) (first|exact HD1.out _ (HB1.out.trans (hb5.mono HB1.out.size))|exact HD1.out _ ((zb HB1.out).trans (hb5.mono (show w.heap.size<=w1.drew.heap.size from HB1.out.size)))|go_keep) (first|(go_at_call 127;(with_reducible refine(CU.out _ (by first|exact HB1.out|exact zb HB1.out)).mono ?_);rintro e w5 ⟨ao5,cap5,rfl,hown5,hb5⟩))
     all_goals
      have HB5:Hid (Below w.heap.size w w5):=zH (by first|exact HB1.out.trans (hb5.mono HB1.out.size)|exact(zb HB1.out).trans (hb5.mono (show w.heap.size<=w1.drew.heap.size from HB1.out.size)));clear hb5 hown5;go_wp2_with fail
      go_ret2
      exact .inl ⟨by rw[HE.out,if_pos g1];decide,by rw[HE.out,if_pos g1];rfl,HB5.out⟩
   have t1:decide ((u:Int)<(wr:Int))=false:=by simp;omega
   have t1':decide (u<wr)=false:=by simp;omega
   by_cases g2:m=1000000
   . have t2:((m:Int)==1000000)=true:=by simp;omega
     have HE2:Hid (qM n wr st text=11):=zH (by rw[HE.out,if_neg g1,if_pos g2]);clear g1 g2;go_enter Tryz.func126,Tryz.ntmps126
     go_wp2_with fail
     go_region_held3 (fun w'=>w'.cell? ⟨b,0,none⟩=some (.int .i64 (n:Int))/\w'.cell? ⟨b,1,none⟩=some (.int .i64 (k:Int))) (first|exact⟨(hb1'.cell (p:=⟨b,0,none⟩) HBL.out).trans c0,(hb1'.cell (p:=⟨b,1,none⟩) HBL.out).trans c1⟩|go_keep) (first|(go_at_call 131;(with_reducible refine(CG.out _).mono ?_);rintro e w1 ⟨g,rfl,hO1,hb1'⟩))
     have HB1:Hid (Below w.heap.size w w1):=zH (by first|exact hb1'|exact(yc w.heap.size w 1).trans hb1');have HO1:=zH hO1;clear hb1' hO1;have x2:=HD1.out _ HB1.out;go_wp2_with fail
     go_region_held3 (fun w'=>w'.cell? ⟨b,2,none⟩=some (.int .i64 (wr:Int))) (first|exact HD1.out _ (HB1.out.trans (hb5.mono HB1.out.size))|exact HD1.out _ ((zb HB1.out).trans (hb5.mono (show w.heap.size<=w1.drew.heap.size from HB1.out.size)))|go_keep) (first|(go_at_call 127;(with_reducible refine(CU.out _ (by first|exact HB1.out|exact zb HB1.out)).mono ?_);rintro e w5 ⟨ao5,cap5,rfl,hown5,hb5⟩))
     all_goals
      have HB5:Hid (Below w.heap.size w w5):=zH (by first|exact HB1.out.trans (hb5.mono HB1.out.size)|exact(zb HB1.out).trans (hb5.mono (show w.heap.size<=w1.drew.heap.size from HB1.out.size)));clear hb5 hown5;have x5:=HD2.out _ HB5.out;go_wp2_with fail
      go_ret2
      exact .inl ⟨by rw[HE2.out];decide,by rw[HE2.out];rfl,HB5.out⟩
   . have t2:((m:Int)==1000000)=false:=by simp;omega
     have HE2:Hid (qM n wr st text=0):=zH (by rw[HE.out,if_neg g1,if_neg g2]);clear g1 g2;go_enter Tryz.func126,Tryz.ntmps126
     go_wp2_with fail
     go_region_held3 (fun w'=>w'.cell? ⟨b,0,none⟩=some (.int .i64 (n:Int))/\w'.cell? ⟨b,1,none⟩=some (.int .i64 (k:Int))) (first|exact⟨(hb1'.cell (p:=⟨b,0,none⟩) HBL.out).trans c0,(hb1'.cell (p:=⟨b,1,none⟩) HBL.out).trans c1⟩|go_keep) (first|(go_at_call 131;(with_reducible refine(CG.out _).mono ?_);rintro e w1 ⟨g,rfl,hO1,hb1'⟩))
     have HB1:Hid (Below w.heap.size w w1):=zH (by first|exact hb1'|exact(yc w.heap.size w 1).trans hb1');have HO1:=zH hO1;clear hb1' hO1;have x2:=HD1.out _ HB1.out;go_wp2_with fail
     go_region_held3 (fun w'=>w'.cell? ⟨b,2,none⟩=some (.int .i64 (wr:Int))) (first|exact HD1.out _ (HB1.out.trans (hb5.mono HB1.out.size))|exact HD1.out _ ((zb HB1.out).trans (hb5.mono (show w.heap.size<=w1.drew.heap.size from HB1.out.size)))|go_keep) (first|(go_at_call 127;(with_reducible refine(CU.out _ (by first|exact HB1.out|exact zb HB1.out)).mono ?_);rintro e w5 ⟨ao5,cap5,rfl,hown5,hb5⟩))
     all_goals
      have HB5:Hid (Below w.heap.size w w5):=zH (by first|exact HB1.out.trans (hb5.mono HB1.out.size)|exact(zb HB1.out).trans (hb5.mono (show w.heap.size<=w1.drew.heap.size from HB1.out.size)));have hb5x:=hb5;clear hb5 hown5;have HO5:Hid (Own w5 w.heap.size 9 g n n (fun j=>.string (pcs text k j))):=zH (qm (zi HO1.out (by first|exact hb5x.mono (Nat.le_refl _)|exact(yc _ _ 1).trans hb5x)) (Nat.le_refl _));clear hb5x;have x5:=HD2.out _ HB5.out;go_wp2_with fail
      go_ret2
      exact .inr ⟨HE2.out,g,rfl,HO5.out,HB5.out⟩
end Go.Proofs.YtmgfbmkfomebcaaGreatDoor
