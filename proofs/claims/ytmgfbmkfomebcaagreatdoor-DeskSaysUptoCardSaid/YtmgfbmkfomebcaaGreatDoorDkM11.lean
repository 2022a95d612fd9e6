/- Contract of reed.Mend. -/
import Derived.Test.YtmgfbmkfomebcaaGreatDoorRows
import Derived.Test.YtmgfbmkfomebcaaGreatDoorDkM10
import Derived.Test.YtmgfbmkfomebcaaGreatDoorDkM8
import Derived.Deep.RegionHeld3
import Derived.Test.YtmgfbmkfomebcaaGreatDoorDkM9
set_option linter.unusedVariables false
set_option linter.unusedSimpArgs false
set_option maxRecDepth 100000
set_option maxHeartbeats 8000000
namespace Go.Proofs.YtmgfbmkfomebcaaGreatDoor
open Go.RowKit
def vV(H:Nat->Bool)(B:Nat->GF)(n:Nat):List Value:=jj ((List.range n).map fun i=>(.bool (H i),gfV B i))
theorem pA(H:Nat->Bool)(B:Nat->GF){n i:Nat}(h:i<n):(vV H B n)[i*2]?=some (.bool (H i))/\(vV H B n)[i*2+1]?=some (.int .u8 (B i).val):=by
 have:=zay ((List.range n).map fun i=>(Value.bool (H i),gfV B i)) i (.bool (H i),gfV B i) (by simp[h]);exact this
def zZ(l:List Nat):List Value:=l.map fun(a:Nat)=>Value.int .i64 ((a:Nat):Int)
def vB(B:Nat->GF)(l:List Nat):List Value:=l.map fun a=>gfV B a
theorem vW(l:List Nat)(a:Nat):zZ (l++[a])=zZ l++[.int .i64 (a:Int)]:=by simp[zZ]
theorem Y0(B:Nat->GF)(l:List Nat)(a:Nat):vB B (l++[a])=vB B l++[.int .u8 ((B a).val:Int)]:=by simp[vB,gfV]
theorem zaM{P:List Nat}{k:Nat}(hk:k<=P.length)(hP:∀a∈P,a<256):zZ (P.take k)=zX k (giV (atP P)):=by
 apply List.ext_getElem?;intro j;by_cases hj:j<k
 . rw[zG _ hj];unfold zZ giV atP;rw[List.getElem?_map,List.getElem?_take_of_lt hj,List.getD_eq_getElem?_getD,List.getElem?_eq_getElem (by omega)];simp only[Option.map_some,Option.getD_some];rw[ko (hP _ (List.getElem_mem _))]
 . rw[List.getElem?_eq_none (by simp[zZ];omega),List.getElem?_eq_none (by rw[zC];omega)]
theorem VA{P:List Nat}{k:Nat}(B:Nat->GF)(hk:k<=P.length):vB B (P.take k)=zX k (gfV (byP B P)):=by
 apply List.ext_getElem?;intro j;by_cases hj:j<k
 . rw[zG _ hj];unfold vB gfV byP;rw[List.getElem?_map,List.getElem?_take_of_lt hj,List.getD_eq_getElem?_getD,List.getElem?_eq_getElem (by omega)];rfl
 . rw[List.getElem?_eq_none (by simp[vB];omega),List.getElem?_eq_none (by rw[zC];omega)]
def kN(H:Nat->Bool)(B:Nat->GF)(P:List Nat)(n k:Nat)(w:World)(e:Ending)(w':World):Prop:=
 Below w.heap.size w w'/\((P.length<k/\e=.returned (.tuple #[.slice none 0 0,.int .i64 9]))\/(k<=P.length/\¬Fit H B P k n/\e=.returned (.tuple #[.slice none 0 0,.int .i64 8]))\/
  (k<=P.length/\Fit H B P k n/\∃v,e=.returned (.tuple #[v,.int .i64 0])/\w'.ownsRow w.heap.size 5 1 v n (zX n (gfV fun j=>qn B P k (gf j)))))
theorem Q5(H:Nat->Bool)(B:Nat->GF)(n k:Nat)(ao:Option Addr)(cap:Nat)(w:World)(hn:n<=20)(hk1:1<=k)(hk2:k<=n)(hR:Hid (Reads w ao (vV H B n))):
 Calls Tryz.prog 171 #[.slice ao n cap,.int .i64 k] w (kN H B (pl H n) n k w):=by
 have hc:=zbb n k ao cap w;have hce:KV 20 n k=0:=by unfold KV;rw[if_neg (by omega),if_neg (by omega)]
 rw[hce]at hc;have HC:=zH hc;clear hc hce;go_enter Tryz.func171,Tryz.ntmps171
 go_wp2_with fail
 refine HC.out.mono ?_;rintro e w' ⟨rfl,rfl⟩;go_wp2_with fail
 go_loopw [7,8,9,10,22] (fun va vb _ _ vi wr=>∃i:Nat,vi=.int .i64 i/\i<=n/\∃L:List Nat,Hid (L=(pl H i).take k)/\L.length<=n/\Hid (wr.ownsRow w.heap.size 3 1 va L.length (zZ L))/\Hid (wr.ownsRow w.heap.size 5 1 vb L.length (vB B L))/\Hid (Apart va vb)/\Hid (Below w.heap.size w wr)) (fun _ _ _ _ vi _=>n-(intOf vi).toNat)
 case atStart=>exact⟨0,rfl,by omega,[],zH (by simp[pl]),by simp,zH (World.ownsRow_nil _ _ _ _),zH (World.ownsRow_nil _ _ _ _),(fun g h=>by cases h),Below.refl _ _⟩
 case round=>
  obtain⟨i,rfl,hin,L,hL,hLn,hra,hrb,hap,hb⟩:=hrel;by_cases hi:i<n
  . obtain⟨c1,c2⟩:=pA H B hi;obtain⟨b1,o1,rfl,c1⟩:=(hR.out.below hb.out) _ _ c1;obtain⟨b2,o2,ha2,c2⟩:=(hR.out.below hb.out) _ _ c2;injection ha2 with ha2
    injection ha2 with hb2 ho2
    subst hb2 ho2;rw[<-Nat.add_assoc]at c2;obtain⟨p,hp⟩:∃p,H i=p:=⟨_,rfl⟩
    rw[hp]at c1;have HP:=zH hp;clear hp;cases p
    . have hL2:Hid (L=(pl H (i+1)).take k):=by
       show _=_;rw[hL.out,kY,if_neg (by rw[HP.out];decide)]
      go_wp2_with fail
      go_roundw
      case rel=>exact⟨i+1,by go_num,by omega,L,hL2,hLn,zH (hra.out.alloc _),zH (hrb.out.alloc _),hap,zH (hb.out.alloc hb.out.size _)⟩
      case measure=>simp[intOf];omega
    . by_cases hlk:L.length<k
      . have l1:decide ((L.length:Int)<k)=true:=by simp;omega
        have l2:decide (L.length<k)=true:=by simp;omega
        obtain⟨a7,c7,rfl,_,_,_⟩:=zr hra.out;obtain⟨a8,c8,rfl,_,_,_⟩:=zr hrb.out;go_wp2_with fail
        have hm1:Hid (L.length+1<=maxLen):=zH (by unfold maxLen;omega);have hm2:Hid ((L.length+1)*8<=140737488355328):=zH (by omega);have hm3:Hid ((L.length+1)*1<=140737488355328):=zH (by omega)
        go_region_held3 (fun w'=>w'.cell? ⟨wr.heap.size,1,none⟩=some (.int .u8 ((B i).val:Int))) (first|go_keep|(exact(hgr8.cell (by first|go_keep|(simp;done)) (kX hrb.out (Nat.le_refl _))))|(exact(hgr7.cell (by first|go_keep|(simp;done)) (kX hra.out (Nat.le_refl _)))))
         (first
          |(refine kx ?_ (.tmp 35) (.tmp 37) 62 ?_ w.heap.size 3 _ 8 Tryz.underlying62 zbH (.slice a7 L.length c7) L.length (zZ L) ?_ wr hra.out 5 (.slice a8 L.length c8) L.length (vB B L) hrb.out hap.out w hb.out (Nat.le_refl _) ?_ ?_ (.int .i64 (i:Int)) ?_ ?_ rfl hm1.out hm2.out ?_;(focus rfl);(focus rfl);(focus rfl);(focus (repeat(first|(with_reducible exact Below.refl _ _)|(with_reducible apply zb)|(with_reducible apply zg)|(with_reducible refine Below.alloc ?_ (by simp;try omega) _)|fail)));rotate_left;(focus rfl);(focus (repeat(first|(with_reducible exact zl _ _ _ (by simp;try omega))|(with_reducible apply yu)|(with_reducible apply yO)|(with_reducible apply za)|fail)));intro g7 p7 w7 hr7 hr8 hap7 hb7 hgr7)
          |(refine kx ?_ (.tmp 39) (.tmp 42) 113 ?_ w.heap.size 5 _ 1 Tryz.underlying113 QX (.slice a8 L.length c8) L.length (vB B L) ?_ w7 hr8 3 _ _ _ hr7 hap7.symm w hb7 (Nat.le_refl _) ?_ ?_ (.int .u8 ((B i).val:Int)) ?_ ?_ rfl hm1.out hm3.out ?_;(focus rfl);(focus rfl);(focus rfl);(focus (repeat(first|(with_reducible exact Below.refl _ _)|(with_reducible apply zb)|(with_reducible apply zg)|(with_reducible refine Below.alloc ?_ (by simp;try omega) _)|fail)));rotate_left;(focus rfl);(focus (repeat(first|(with_reducible exact zl _ _ _ (by simp;try omega))|(with_reducible apply yu)|(with_reducible apply yO)|(with_reducible apply za)|(with_reducible refine zY hgr7 ?_ (kX hra.out (by omega)))|fail)));intro g8 p8 w8 hs8 hs7 hap8 hb8 hgr8)
          |fail)
        all_goals
         have hL2:Hid (L++[i]=(pl H (i+1)).take k):=by
          have hlen:(pl H i).length<k:=by
           have h1:=congrArg List.length hL.out;rw[List.length_take]at h1;omega
          show _=_;rw[kY,if_pos (by rw[HP.out]),Vm,if_pos hlen,hL.out]
         have HS8:Hid (w8.ownsRow w.heap.size 5 1 (.slice (some ⟨g8,0,none⟩) (L.length+1) p8) (L++[i]).length (vB B (L++[i]))):=by
          show World.ownsRow _ _ _ _ _ _ _;rw[Y0,List.length_append];exact hs8
         have HS7:Hid (w8.ownsRow w.heap.size 3 1 (.slice (some ⟨g7,0,none⟩) (L.length+1) p7) (L++[i]).length (zZ (L++[i]))):=by
          show World.ownsRow _ _ _ _ _ _ _;rw[vW,List.length_append];exact hs7
         have HA:=zH hap8.symm;have HB:=zH hb8;have HLn:(L++[i]).length<=n:=by simp;omega
         clear hs8 hs7 hap8 hb8 hgr8 hgr7 hb7 hap7 hr7 hr8;go_wp2_with fail
         go_roundw
         case rel=>exact⟨i+1,by go_num,by omega,L++[i],hL2,HLn,HS7,HS8,HA,HB⟩
         case measure=>simp[intOf];omega
      . have l1:decide ((L.length:Int)<k)=false:=by simp;omega
        have l2:decide (L.length<k)=false:=by simp;omega
        have hL2:Hid (L=(pl H (i+1)).take k):=by
         have hlen:¬(pl H i).length<k:=by
          have h1:=congrArg List.length hL.out;rw[List.length_take]at h1;omega
         show _=_;rw[kY,if_pos (by rw[HP.out]),Vm,if_neg hlen,hL.out]
        obtain⟨a7,c7,rfl,_,_,_⟩:=zr hra.out;go_wp2_with fail
        go_roundw
        case rel=>exact⟨i+1,by go_num,by omega,L,hL2,hLn,zH (hra.out.alloc _),zH (hrb.out.alloc _),hap,zH (hb.out.alloc hb.out.size _)⟩
        case measure=>simp[intOf];omega
  . have hi2:i=n:=by omega
    obtain⟨P,hP⟩:∃P,pl H n=P:=⟨_,rfl⟩
    have hPm:∀a∈P,a<256:=fun a ha=>by rw[<-hP]at ha;have:=(qv.1 ha).1;omega
    have hL1:=hL.out;rw[hi2,hP]at hL1;have HPP:=zH hP;have hll:L.length=min k P.length:=by rw[hL1,List.length_take]
    clear hL hP;by_cases hlk:P.length<k
    . have l1:decide ((L.length:Int)<k)=true:=by simp;omega
      have l2:decide (L.length<k)=true:=by simp;omega
      obtain⟨a7,c7,rfl,_,_,_⟩:=zr hra.out;go_wp2_with fail
      go_ret2
      exact⟨hb.out,.inl ⟨by rw[HPP.out];exact hlk,rfl⟩⟩
    . have hkP:k<=P.length:=by omega
      have l1:decide ((L.length:Int)<k)=false:=by simp;omega
      have l2:decide (L.length<k)=false:=by simp;omega
      have hlk2:L.length=k:=by omega
      obtain⟨a7,c7,rfl,ra7,_,_⟩:=zr hra.out;obtain⟨a8,c8,rfl,ra8,_,_⟩:=zr hrb.out;rw[hL1,zaM hkP hPm]at ra7;rw[hL1,VA B hkP]at ra8;have R7:=zH ra7;have R8:=zH ra8;have hk256:k<=256:=by omega
      rw[hlk2]at l1 l2 ⊢;have HKP:=zH hkP;have HPM:=zH hPm;clear ra7 ra8 hra hrb hap hL1 hll hLn hlk2 hlk;go_wp2_with fail
      refine(J7 (atP P) (byP B P) k n a7 a8 c7 c8 wr hk256 (by omega) R7 R8).mono ?_;rintro e w1 ⟨g,cp,rfl,hO,hb1⟩;have HO:Hid (Own w1 w.heap.size 5 g n cp (gfV fun j=>qn B P k (gf j))):=qm hO hb.out.size;have HB1:=zH (hb.out.trans (Below.mono hb1 hb.out.size));clear hO hb1;go_wp2_with fail
      go_loopw [12,13,56] (fun _ _ vi wr=>∃i:Nat,vi=.int .i64 i/\i<=n/\Hid (∀a,a<i->H a=true->qn B P k (gf a)=B a)/\Hid (Own wr w.heap.size 5 g n cp (gfV fun j=>qn B P k (gf j)))/\Hid (Below w.heap.size w wr)) (fun _ _ vi _=>n-(intOf vi).toNat)
      case atStart=>exact⟨0,rfl,by omega,zH (by intro a ha;omega),HO,HB1⟩
      case round=>
       obtain⟨i,rfl,hin,hall,hO,hb⟩:=hrel;by_cases hi:i<n
       . obtain⟨c1,c2⟩:=pA H B hi;obtain⟨b1,o1,rfl,c1⟩:=(hR.out.below hb.out) _ _ c1;obtain⟨b2,o2,ha2,c2⟩:=(hR.out.below hb.out) _ _ c2;injection ha2 with ha2
         injection ha2 with hb2 ho2
         subst hb2 ho2;rw[<-Nat.add_assoc]at c2;obtain⟨p,hp⟩:∃p,H i=p:=⟨_,rfl⟩
         rw[hp]at c1;have HP:=zH hp;clear hp;cases p
         . have hall2:Hid (∀a,a<i+1->H a=true->qn B P k (gf a)=B a):=by
            intro a ha hh;rcases Nat.lt_or_ge a i with h|h
            . exact hall.out a h hh
            . obtain rfl:a=i:=by omega
              rw[HP.out]at hh;cases hh
           go_wp2_with fail
           go_quiet (fail)
           go_wp2_with fail
           go_roundw
           case rel=>exact⟨i+1,by go_num,by omega,hall2,zH ((hO.out.below (Below.alloc (Below.refl _ _) (Nat.le_refl _) _)).drewN _),zH (zg (hb.out.alloc hb.out.size _) _)⟩
           case measure=>simp[intOf];omega
         . have hOa:=zH (hO.out.below (Below.alloc (Below.refl _ wr) (Nat.le_refl _) (.cells #[.bool true,.int .u8 ((B i).val:Int)] 168)));have c3:=hOa.out.cell hi;have hii:(i:Int)<n:=by omega
           have hi0:(0:Int)<=i:=by omega
           unfold gfV at c3;dsimp only at c3;by_cases hv:qn B P k (gf i)=B i
           . have hall2:Hid (∀a,a<i+1->H a=true->qn B P k (gf a)=B a):=by
              intro a ha hh;rcases Nat.lt_or_ge a i with h|h
              . exact hall.out a h hh
              . obtain rfl:a=i:=by omega
                exact hv
             rw[hv]at c3;have d1:(((B i).val:Int)!=((B i).val:Int))=false:=by simp
             clear hv;go_wp2_with fail
             go_quiet (fail)
             go_wp2_with fail
             go_roundw
             case rel=>exact⟨i+1,by go_num,by omega,hall2,zH ((hO.out.below (Below.alloc (Below.refl _ _) (Nat.le_refl _) _)).drewN _),zH (zg (hb.out.alloc hb.out.size _) _)⟩
             case measure=>simp[intOf];omega
           . obtain⟨y,hy⟩:∃y,(qn B P k (gf i)).val=y:=⟨_,rfl⟩
             rw[hy]at c3;have d1:(((B i).val:Int)!=(y:Int))=true:=by
              rw[<-hy];simp only[bne_iff_ne,ne_eq];intro h;exact hv (GF.ext (by omega))
             have hnf:Hid (¬Fit H B P k n):=fun h=>hv (h i hi HP.out)
             clear hv hy;go_wp2_with fail
             go_quiet (fail)
             go_wp2_with fail
             go_ret2
             exact⟨zg (hb.out.alloc hb.out.size _) _,.inr (.inl ⟨by rw[HPP.out];exact HKP.out,by rw[HPP.out];exact hnf.out,rfl⟩)⟩
       . have hfin:Hid (Fit H B P k n):=by
          intro a ha hh;exact hall.out a (by omega) hh
         go_wp2_with fail
         go_ret2
         exact⟨hb.out,.inr (.inr ⟨by rw[HPP.out];exact HKP.out,by rw[HPP.out];exact hfin.out,_,rfl,by rw[HPP.out];exact hO.out⟩)⟩
def pJ(s:ByteArray)(m i t:Nat):Nat:=if t*m+i<s.size then zJ s (t*m+i) else 0
theorem zew(s:ByteArray)(m i t:Nat):pJ s m i t<256:=by unfold pJ;split;exact yH _ _;omega
def ysP(s:ByteArray)(m i:Nat)(t:Nat):GF:=gf (pJ s m i t)
def pcF(s:ByteArray)(k j i:Nat):Nat:=(lag gf (ysP s (yZ s.size k) i) k (gf j)).val
theorem zdt(s:ByteArray)(k j i:Nat):pcF s k j i<256:=(lag gf (ysP s (yZ s.size k) i) k (gf j)).lt
def QZ(s:ByteArray)(k n:Nat)(w:World)(e:Ending)(w':World):Prop:=
 ∃g,e=.returned (.tuple #[.slice (some ⟨g,0,none⟩) n n,.int .i64 0])/\Own w' w.heap.size 9 g n n (fun j=>.string (qx s.size (yZ s.size k) (pcF s k j)))/\Below w.heap.size w w'
theorem zb7:yb Tryz.prog 113 (.slice none 0 0) 1 24:=yf (by kernel_rfl) rfl (by omega)
theorem YI:yb Tryz.prog 9 (.string ByteArray.empty) 1 16:=yf (by kernel_rfl) rfl (by omega)
theorem zbo(s:ByteArray)(m i k:Nat):zX k (fun t=>.int .u8 (pJ s m i t:Nat))=zX k (gfV (ysP s m i)):=by
 apply kT;intro j _;unfold gfV ysP;rw[ko (zew s m i j)]
theorem ZB(s:ByteArray)(k n:Nat)(w:World)(hs:s.size<=60)(hk:1<=k)(hkn:k<=n)(hn:n<=10):
 Calls Tryz.prog 131 #[.string s,.int .i64 k,.int .i64 n] w (QZ s k n w):=by
 have CR:=zH (pi (k:Int) (n:Int) w);have hrb:qg (k:Int) (n:Int)=true:=by unfold qg;simp;omega
 rw[hrb]at CR;have hT:decide ((60:Int)<s.size)=false:=by simp;omega
 obtain⟨m,hm⟩:∃m,yZ s.size k=m:=⟨_,rfl⟩
 have CZ:=zH (fun W=>jM s.size k W (by omega) hk (by omega));have hmb:m<=60:=by rw[<-hm];exact Nat.le_trans (vG hk) hs
 rw[hm]at CZ;have HM:=zH hm;clear hrb hm;go_enter Tryz.func131,Tryz.ntmps131
 go_wp2_with fail
 (with_reducible refine CR.out.mono ?_)
 rintro e w1 ⟨rfl,rfl⟩;go_wp2_with fail
 (with_reducible refine(CZ.out _).mono ?_)
 rintro e w1 ⟨rfl,rfl⟩;go_wp2_with (first
  |(at_make;refine qh rfl _ _ 214 rfl w.heap.size 113 _ 24 Tryz.underlying214 zb7 rfl _ _ _ _ n (by rfl) (by rfl) rfl rfl (by omega) (by unfold maxLen;omega) (Nat.le_refl _) ?_;intro w2 hown hg2;have HP:=zH (Parts.start (F:=pcF s k) hown);have HB:=zH (zQ hg2 (Nat.le_refl _) (fun q hq=>by cases hq));clear hown hg2)
  |fail)
 obtain⟨gp,hgp⟩:∃gp,w.heap.size=gp:=⟨_,rfl⟩
 have HGP:=zH hgp;rw[hgp]at HP ⊢;clear hgp;go_loopw [37] (fun vi wr=>∃i:Nat,vi=.int .i64 i/\i<=m/\Hid (Parts wr gp gp n (fun _=>i) (pcF s k) (fun g=>g=gp))/\Hid (Below w.heap.size w wr)) (fun vi _=>m-(intOf vi).toNat)
 case atStart=>exact⟨0,rfl,by omega,HP,HB⟩
 case round=>
  clear HP HB;obtain⟨i,rfl,hi,HP,HB⟩:=hrel;obtain⟨wo,rfl⟩:∃wo,wo=wr:=⟨_,rfl⟩
  by_cases him:i<m
  . go_wp2_with (first
      |(at_make;refine qh rfl _ _ 113 rfl wo.heap.size 5 _ 1 Tryz.underlying113 vO rfl _ _ _ _ k (by rfl) (by rfl) rfl rfl (by omega) (by unfold maxLen;omega) (Nat.le_refl _) ?_;intro w2 hown hg2;have HD:=zH hown;have HB2:=zH (zQ hg2 (Nat.le_refl _) (fun q hq=>by cases hq));clear hown hg2)
      |fail)
    obtain⟨gd,hgd⟩:∃gd,wo.heap.size=gd:=⟨_,rfl⟩
    have HGD:=zH hgd;have HD0:Hid (Own w2 gd 5 gd k k (fun t=>.int .u8 ((if t<0 then pJ s m i t else 0:Nat):Int))):=zH (by rw[<-hgd];exact HD.out.congr fun t _=>by rw[if_neg (by omega)];rfl);have HP2:=zH (HP.out.below HB2.out);have HB3:=zH (HB.out.trans (HB2.out.mono HB.out.size));have HGG:Hid (gp<gd):=zH (by rw[<-hgd];exact HP.out.lt.2);have HB2':Hid (Below gd wo w2):=zH (by rw[<-hgd];exact HB2.out);rw[hgd];clear HD hgd HB2;go_wp2_with fail
    go_loopw [13,43] (fun _ vt wi=>∃t:Nat,vt=.int .i64 t/\t<=k/\Hid (Own wi gd 5 gd k k (fun r=>.int .u8 ((if r<t then pJ s m i r else 0:Nat):Int)))/\Hid (Below gd wo wi)) (fun _ vt _=>k-(intOf vt).toNat)
    case atStart=>exact⟨0,rfl,by omega,HD0,HB2'⟩
    case round=>
     clear HD0 HB2' HP2 HB3;obtain⟨t,rfl,ht,HD,HBi⟩:=hrel;obtain⟨wi,rfl⟩:∃wi,wi=wr:=⟨_,rfl⟩
     by_cases htk:t<k
     . obtain⟨a,ha⟩:∃a,t*m+i=a:=⟨_,rfl⟩
       have htm:t*m<=600:=Nat.mul_le_mul (show t<=10 by omega) hmb;have a1:(t:Int)*(m:Int)=((t*m:Nat):Int):=by push_cast;rfl
       obtain⟨b,hb⟩:∃b,t*m=b:=⟨_,rfl⟩
       rw[hb]at a1 ha htm;have a2:(b:Int)+(i:Int)=(a:Int):=by omega
       have wb:IntKind.i64.wrap (b:Int)=(b:Int):=IntWalk.i64_in _ (by omega);have wa:IntKind.i64.wrap (a:Int)=(a:Int):=IntWalk.i64_in _ (by omega);have hdat:Hid (pJ s m i t=if a<s.size then zJ s a else 0):=zH (by unfold pJ;rw[hb,ha]);clear ha hb;by_cases has:a<s.size
       . have t1:decide ((a:Int)<(s.size:Int))=true:=by simp;omega
         have hbs:=yT s a has;obtain⟨c,hc⟩:∃c,zJ s a=c:=⟨_,rfl⟩
         have p1:=HD.out.cell htk;have f1:=HD.out.frozen t;have A1:=HD.out.store t (.int .u8 ((s[a].toNat:Nat):Int));have O2:Hid (Own (wi.setCell ⟨gd,t,none⟩ (.int .u8 ((s[a].toNat:Nat):Int))) gd 5 gd k k (fun r=>.int .u8 ((if r<t+1 then pJ s m i r else 0:Nat):Int))):=zH (A1.1.congr fun r _=>zer (F:=fun r=>pJ s m i r) (G:=fun _=>0) (by rw[hdat.out,if_pos has,hbs]) r);have B2:=zH (zk HBi.out (Nat.le_refl gd) (j:=t) (.int .u8 ((s[a].toNat:Nat):Int)));clear A1 hbs hc;go_wp2_with fail
         go_roundw
         case rel=>exact⟨t+1,by go_num,by omega,O2,B2⟩
         case measure=>simp[intOf];omega
       . have t1:decide ((a:Int)<(s.size:Int))=false:=by simp;omega
         have O2:Hid (Own wi gd 5 gd k k (fun r=>.int .u8 ((if r<t+1 then pJ s m i r else 0:Nat):Int))):=zH (HD.out.congr fun r _=>by
          by_cases hr:r=t
          . subst hr;rw[if_neg (by omega),if_pos (by omega),hdat.out,if_neg has]
          . by_cases hr2:r<t
            . rw[if_pos hr2,if_pos (by omega)]
            . rw[if_neg hr2,if_neg (by omega)])
         go_wp2_with fail
         go_roundw
         case rel=>exact⟨t+1,by go_num,by omega,O2,HBi⟩
         case measure=>simp[intOf];omega
     . obtain rfl:t=k:=by omega
       have HDF:Hid (Reads wi (some ⟨gd,0,none⟩) (zX t (gfV (ysP s m i)))):=zH (by
        rw[<-zbo];exact(HD.out.congr fun r hr=>by rw[if_pos hr]).reads)
       have HBo:Hid (Below wo.heap.size wo wi):=zH (by rw[HGD.out];exact HBi.out);have HPi:=zH (HP.out.below HBo.out);have HBw:=zH (HB.out.trans (HBo.out.mono HB.out.size));have CP:=zH (zd9 (ysP s m i) t n (some ⟨gd,0,none⟩) t wi hk hkn (by omega) HDF);clear HD HBi HDF HBo;go_wp2_with fail
       (with_reducible refine CP.out.mono ?_)
       rintro e w3 ⟨gr,cr,rfl,hO3,hb3⟩;have hlt3:=hO3.lt;have HP3:Hid (Parts w3 gp gp n (fun r=>if r<0 then i+1 else i) (pcF s t) (fun q=>q=gp\/q=gr)):=zH ((HPi.out.widen hb3 hlt3.1 hlt3.2).congr fun r _=>by rw[if_neg (by omega)]);have HR3:=zH hO3.reads;have HGR:Hid (gp≠gr):=zH (by have:=HPi.out.lt;omega);have HB3:=zH (HBw.out.trans (hb3.mono HBw.out.size));clear hO3 hb3 hlt3 CP HPi;go_wp2_with fail
       go_loopw [70] (fun vj wi=>∃j:Nat,vj=.int .i64 j/\j<=n/\Hid (Parts wi gp gp n (fun r=>if r<j then i+1 else i) (pcF s t) (fun q=>q=gp\/q=gr))/\Hid (Reads wi (some ⟨gr,0,none⟩) (zX n (gfV fun j=>lag gf (ysP s m i) t (gf j))))/\Hid (Below w.heap.size w wi)) (fun vj _=>n-(intOf vj).toNat)
       case atStart=>exact⟨0,rfl,by omega,HP3,HR3,HB3⟩
       case round=>
        clear HP3 HR3 HB3 HBw HP HB;obtain⟨j,rfl,hj,HP,HR,HB⟩:=hrel;obtain⟨wj,rfl⟩:∃wj,wj=wr:=⟨_,rfl⟩
        by_cases hjn:j<n
        . obtain⟨b1,o1,ha,c1⟩:=HR.out j _ (zG _ hjn);cases ha;rw[Nat.zero_add]at c1;unfold gfV at c1;have hcell:(lag gf (ysP s m i) t (gf j)).val=pcF s t j i:=by unfold pcF;rw[HM.out]
          rw[hcell]at c1;obtain⟨v,hv,hown,hnext⟩:=HP.out.get hjn;simp only[Nat.lt_irrefl,if_false]at hown hnext;obtain⟨x,hx⟩:∃x,pcF s t j i=x:=⟨_,rfl⟩
          rw[hx]at c1 hnext;have HX:=zH hx;have HOW:=zH hown;have HNX:=zH hnext;clear hx hown hnext hcell;have j0:(0:Int)<=(j:Int):=by omega
          have j1:(j:Int)<(n:Int):=by omega
          go_wp2_with (first
           |(at_builtin;go_must (refine qR rfl (.tmp 80) (.tmp 82) 113 rfl gp 5 _ 1 1 Tryz.underlying113 vO v i _ (by rfl) HOW.out [.int .u8 (x:Int)] (by rfl) rfl (by intro u hu;simp at hu;subst hu;rfl) (by unfold maxLen;omega) (by omega) (by have:=HP.out.lt;omega) ?_);intro v1 w5 hown5 hgr5 hb5 hat5;obtain⟨g5,c5,rfl⟩:=yR hown5 (by simp);obtain⟨⟨u5,hc5⟩,hf5,hP5,hX5⟩:=HNX.out _ w5 hown5 hgr5 hat5;have HG5:=zH hgr5;have HB5:=zH hb5;have HP5:=zH hP5;have HX5:=zH hX5;clear hown5 hgr5 hb5 hat5 hP5 hX5)
           |fail)
          have HB6:Hid (Below w.heap.size w (w5.setCell ⟨gp,j,none⟩ (.slice (some ⟨g5,0,none⟩) (i+1) c5))):=zH (zk (HB.out.trans (by rw[HGP.out];exact HB5.out)) (by rw[HGP.out];exact Nat.le_refl _) _);have HR6:Hid (Reads (w5.setCell ⟨gp,j,none⟩ (.slice (some ⟨g5,0,none⟩) (i+1) c5)) (some ⟨gr,0,none⟩) (zX n (gfV fun j=>lag gf (ysP s m i) t (gf j)))):=zH (((HR.out.alloc _).grown HG5.out (fun a ha=>by cases ha;exact HX5.out gr (.inr rfl))).grown (zO w5 gp j _) (fun a ha=>by
           cases ha;intro he;injection he with he
           exact HGR.out he.symm))
          have HP6:Hid (Parts (w5.setCell ⟨gp,j,none⟩ (.slice (some ⟨g5,0,none⟩) (i+1) c5)) gp gp n (fun r=>if r<j+1 then i+1 else i) (pcF s t) (fun q=>q=gp\/q=gr)):=zH (HP5.out.congr fun r _=>by
           by_cases hr:r=j
           . subst hr;simp
           . rw[if_neg hr];by_cases hr2:r<j
             . rw[if_pos hr2,if_pos (by omega)]
             . rw[if_neg hr2,if_neg (by omega)])
          clear HG5 HB5 HP5 HX5
          go_roundw
          case rel=>exact⟨j+1,by go_num,by omega,HP6,HR6,HB6⟩
          case measure=>simp[intOf];omega
        . obtain rfl:j=n:=by omega
          have HP6:Hid (Parts wj gp gp j (fun _=>i+1) (pcF s t) (fun q=>q=gp)):=zH ((HP.out.congr fun r hr=>by rw[if_pos hr]).narrow (fun g hg=>.inl hg) rfl);go_wp2_with fail
          go_roundw
          case rel=>exact⟨i+1,by go_num,by omega,HP6,HB⟩
          case measure=>simp[intOf];omega
  . obtain rfl:i=m:=by omega
    go_wp2_with (first
     |(at_make;refine qh rfl _ _ 22 rfl w.heap.size 9 _ 16 Tryz.underlying22 YI rfl _ _ _ _ n (by rfl) (by rfl) rfl rfl (by omega) (by unfold maxLen;omega) (HB.out.size) ?_;intro w2 hown hg2;have HO:=zH hown;have HB2:=zH (zQ hg2 (Nat.le_refl _) (fun q hq=>by cases hq));clear hown hg2)
     |fail)
    obtain⟨go,hgo⟩:∃go,wo.heap.size=go:=⟨_,rfl⟩
    have hol:=HO.out.lt;have HPo:=zH (HP.out.widen HB2.out (Nat.le_refl _) (by omega));have HBo:=zH (HB.out.trans (HB2.out.mono HB.out.size));have hgne:Hid (gp≠go):=zH (by rw[<-hgo];have:=HP.out.lt;omega);rw[hgo]at HO HPo ⊢;have HO0:Hid (Own w2 w.heap.size 9 go n n (fun j=>.string (if j<0 then qx s.size i (pcF s k j) else ByteArray.empty))):=zH (HO.out.congr fun j _=>by rw[if_neg (by omega)]);clear HO HB2 hol hgo HP HB;go_wp2_with fail
    go_loopw [91] (fun vj wi=>∃j:Nat,vj=.int .i64 j/\j<=n/\Hid (Parts wi gp gp n (fun _=>i) (pcF s k) (fun q=>q=gp\/q=go))/\Hid (Own wi w.heap.size 9 go n n (fun r=>.string (if r<j then qx s.size i (pcF s k r) else ByteArray.empty)))/\Hid (Below w.heap.size w wi)) (fun vj _=>n-(intOf vj).toNat)
    case atStart=>exact⟨0,rfl,by omega,HPo,HO0,HBo⟩
    case round=>
     clear HPo HO0 HBo;obtain⟨j,rfl,hj,HP,HO,HB⟩:=hrel;obtain⟨wj,rfl⟩:∃wj,wj=wr:=⟨_,rfl⟩
     by_cases hjn:j<n
     . obtain⟨ao,cap,hc,hR,hnn⟩:=HP.out.row hjn;have CS:=zH (KN s.size i (pcF s k j) ao cap wj (by omega) (by omega) (fun r _=>zdt _ _ _ _) hnn (zH hR));obtain⟨S,hS⟩:∃S,qx s.size i (pcF s k j)=S:=⟨_,rfl⟩
       rw[hS]at CS;have HS:=zH hS;have j0:(0:Int)<=(j:Int):=by omega
       have j1:(j:Int)<(n:Int):=by omega
       clear hR hnn hS;go_wp2_with fail
       (with_reducible refine CS.out.mono ?_)
       rintro e w5 ⟨rfl,hb5⟩;have HO5:=HO.out.below hb5;have c5:=HO5.cell hjn;have f5:=HO5.frozen j;have A6:=HO5.store j (.string S);have HP6:=zH ((HP.out.below hb5).kept A6.2 (.inr rfl) hgne.out);have HO6:Hid (Own (w5.setCell ⟨go,j,none⟩ (.string S)) w.heap.size 9 go n n (fun r=>.string (if r<j+1 then qx s.size i (pcF s k r) else ByteArray.empty))):=zH (A6.1.congr fun r _=>by
        by_cases hr:r=j
        . subst hr;rw[if_pos rfl,if_pos (by omega),HS.out]
        . rw[if_neg hr];by_cases hr2:r<j
          . rw[if_pos hr2,if_pos (by omega)]
          . rw[if_neg hr2,if_neg (by omega)])
       have HB6:=zH (HO5.belowStore (HB.out.trans (hb5.mono HB.out.size)) (Nat.le_refl _) j (.string S));clear hb5 HO5 A6;go_wp2_with fail
       go_roundw
       case rel=>exact⟨j+1,by go_num,by omega,HP6,HO6,HB6⟩
       case measure=>simp[intOf];omega
     . obtain rfl:j=n:=by omega
       go_wp2_with fail
       go_ret2
       exact⟨go,rfl,HO.out.congr fun r hr=>by rw[if_pos hr,HM.out],HB.out⟩
def XE(s:ByteArray):ByteArray:=s.extract 0 (s.size-4)
def zak(s:ByteArray):ByteArray:=s.extract (s.size-4) s.size
def zal(s:ByteArray):ByteArray:=yi (vF (Zp (XE s)))
def yl(s:ByteArray)(k:Int):Nat:=
 if k<1\/10<k then 1 else if s.size<5 then 7 else if zak s≠zal s then 8 else if 60<zJ s 0\/s.size≠5+yZ (zJ s 0) k.toNat then 3 else 0
theorem XF(s:ByteArray):(XE s).size<=s.size:=by unfold XE;rw[ByteArray.size_extract];omega
def zfj(E:Nat)(w:World)(e:Ending)(w':World):Prop:=e=.returned (.int .i64 (E:Nat))/\Below w.heap.size w w'
theorem zcJ(c:Nat):∃a0 a1 a2 a3:Nat,(IntKind.u8.wrap (c:Int)=(a0:Int)/\IntKind.u8.wrap ((c:Int) / 256)=(a1:Int)/\IntKind.u8.wrap ((c:Int) / 65536)=(a2:Int)/\IntKind.u8.wrap ((c:Int) / 16777216)=(a3:Int))/\
 ∀W:World,(convert 113 9 (.slice (some ⟨W.heap.size,0,none⟩) 4 4)).run Tryz.prog (W.alloc (.cells #[.int .u8 a0,.int .u8 a1,.int .u8 a2,.int .u8 a3] 5))=.ok (.string (yi (vF c))) (W.alloc (.cells #[.int .u8 a0,.int .u8 a1,.int .u8 a2,.int .u8 a3] 5)):=by
 refine⟨c%256,c / 256%256,c / 65536%256,c / 16777216%256,⟨by rw[IntKind.wrap_u8];omega,by rw[IntKind.wrap_u8];omega,by rw[IntKind.wrap_u8];omega,by rw[IntKind.wrap_u8];omega⟩,fun W=>?_⟩;exact qO (vF c) (some ⟨W.heap.size,0,none⟩) 4 _ (Xu c) (fun h=>by cases h) (yK W _ _)
theorem zam(s:ByteArray)(k:Int)(w:World)(hs:s.size<=9223372036854775807):
 Calls Tryz.prog 170 #[.string s,.int .i64 k] w (zfj (yl s k) w):=by
 have ws:IntKind.i64.wrap ((s.size:Int)-4)=(s.size:Int)-4:=IntWalk.i64_in _ (by omega);by_cases h1:k<1
 . have d1:decide (k<1)=true:=decide_eq_true h1;have HE:Hid (yl s k=1):=zH (by unfold yl;rw[if_pos (by omega)]);clear h1;go_enter Tryz.func170,Tryz.ntmps170
   go_wp2_with fail
   go_ret
   exact⟨by rw[HE.out];rfl,Below.refl _ _⟩
 have d1:decide (k<1)=false:=decide_eq_false h1;by_cases h2:10<k
 . have d2:decide (10<k)=true:=decide_eq_true h2;have HE:Hid (yl s k=1):=zH (by unfold yl;rw[if_pos (by omega)]);clear h1 h2;go_enter Tryz.func170,Tryz.ntmps170
   go_wp2_with fail
   go_ret
   exact⟨by rw[HE.out];rfl,Below.refl _ _⟩
 have d2:decide (10<k)=false:=decide_eq_false h2;by_cases h3:s.size<5
 . have d3:decide ((s.size:Int)<5)=true:=by simp;omega
   have HE:Hid (yl s k=7):=zH (by unfold yl;rw[if_neg (by omega),if_pos h3]);clear h1 h2;go_enter Tryz.func170,Tryz.ntmps170
   go_wp2_with fail
   go_ret
   exact⟨by rw[HE.out];rfl,Below.refl _ _⟩
 have d3:decide ((s.size:Int)<5)=false:=by simp;omega
 obtain⟨n,hn⟩:∃n,s.size-4=n:=⟨_,rfl⟩
 have en:(s.size:Int)-4=(n:Int):=by omega
 have hhs:=XF s;obtain⟨A,hA⟩:∃A,XE s=A:=⟨_,rfl⟩
 have hA2:s.extract 0 n=A:=by rw[<-hA];unfold XE;rw[hn]
 obtain⟨T,hT⟩:∃T,zak s=T:=⟨_,rfl⟩
 have hT2:s.extract n s.size=T:=by rw[<-hT];unfold zak;rw[hn]
 rw[hA]at hhs;have CS:=zH (fun W=>V3 A W (by omega));obtain⟨c,hc⟩:∃c,Zp A=c:=⟨_,rfl⟩
 have hcb:c<4294967296:=by rw[<-hc];exact Yo A
 rw[hc]at CS;obtain⟨a0,a1,a2,a3,⟨w1,w2,w3,w4⟩,KC⟩:=zcJ c;have hF:Hid (zal s=yi (vF c)):=zH (by unfold zal;rw[hA,hc]);obtain⟨F,hF2⟩:∃F,yi (vF c)=F:=⟨_,rfl⟩
 rw[hF2]at hF KC;have KC0:=KC w;have HB0:=zH ((Below.refl w.heap.size w).alloc (Nat.le_refl _) (.cells #[.int .u8 a0,.int .u8 a1,.int .u8 a2,.int .u8 a3] 5));have KC1:(convert 113 9 (.slice (some ⟨w.heap.size,0,none⟩) 4 4)).run Tryz.prog (w.alloc (.cells #[.int .u8 a0,.int .u8 a1,.int .u8 a2,.int .u8 a3] 5)).drew=.ok (.string F) (w.alloc (.cells #[.int .u8 a0,.int .u8 a1,.int .u8 a2,.int .u8 a3] 5)).drew:=KC w.drew;have HE:Hid (yl s k=if T≠F then 8 else if 60<zJ s 0\/s.size≠5+yZ (zJ s 0) k.toNat then 3 else 0):=zH (by unfold yl;rw[if_neg (by omega),if_neg h3,hT,hF.out]);have n0:(0:Int)<=(n:Int):=by omega
 have n1:(n:Int)<=(s.size:Int):=by omega
 have HN:=zH hn;clear hA hT hc hF hF2 KC hn;by_cases hTF:T=F
 . have t1:=zdk hTF;have t1n:(T.toList !=F.toList)=false:=by rw[bne,t1];rfl
   have HTF:=zH hTF;clear hTF;have hs0:0<s.size:=by omega
   obtain⟨b,hb⟩:∃b,zJ s 0=b:=⟨_,rfl⟩
   have hbb:b<256:=by rw[<-hb];exact yH _ _
   have hb2:s[0].toNat=b:=by rw[<-hb];exact yT s 0 hs0
   rw[hb]at HE;by_cases h6:60<b
   . have d6:decide ((60:Int)<(b:Int))=true:=by simp;omega
     have HE3:Hid (yl s k=3):=zH (by rw[HE.out,if_neg (by simp[HTF.out]),if_pos (.inl h6)]);clear hb;go_enter Tryz.func170,Tryz.ntmps170
     go_wp2_with fail
     (with_reducible refine(CS.out _).mono ?_)
     rintro e w5 ⟨rfl,rfl⟩;go_wp2_with fail
     go_region
     all_goals
      go_wp2_with fail
      go_ret
      exact⟨by rw[HE3.out];rfl,zb HB0.out⟩
   . have d6:decide ((60:Int)<(b:Int))=false:=by simp;omega
     obtain⟨K,rfl⟩:∃K:Nat,k=K:=⟨k.toNat,by omega⟩
     have CZ:=zH (fun W=>jM b K W (by omega) (by omega) (by omega));have hzb:=vG (T:=b) (k:=K) (by omega);obtain⟨z,hz⟩:∃z,yZ b K=z:=⟨_,rfl⟩
     rw[hz]at CZ hzb;have hz2:Hid (yZ b ((K:Int).toNat)=z):=zH hz;have wb:IntKind.i64.wrap (b:Int)=(b:Int):=IntWalk.i64_in _ (by omega);clear hb hz;by_cases h7:n=1+z
     . have d7:((n:Int)==1+(z:Int))=true:=by simp;omega
       have d7n:((n:Int)!=1+(z:Int))=false:=by rw[bne,d7];rfl
       have HE3:Hid (yl s K=0):=zH (by rw[HE.out,if_neg (by simp[HTF.out]),if_neg (by rw[hz2.out];have:=HN.out;omega)]);have H7:=zH h7;clear h7;go_enter Tryz.func170,Tryz.ntmps170
       go_wp2_with fail
       (with_reducible refine(CS.out _).mono ?_)
       rintro e w5 ⟨rfl,rfl⟩;go_wp2_with fail
       go_region
       all_goals
        go_wp2_with fail
        (with_reducible refine(CZ.out _).mono ?_)
        rintro e w6 ⟨rfl,rfl⟩;go_wp2_with fail
        go_ret
        exact⟨by rw[HE3.out];rfl,zb HB0.out⟩
     . have d7:((n:Int)==1+(z:Int))=false:=by simp;omega
       have d7n:((n:Int)!=1+(z:Int))=true:=by rw[bne,d7];rfl
       have HE3:Hid (yl s K=3):=zH (by rw[HE.out,if_neg (by simp[HTF.out]),if_pos (by rw[hz2.out];have:=HN.out;omega)]);go_enter Tryz.func170,Tryz.ntmps170
       go_wp2_with fail
       (with_reducible refine(CS.out _).mono ?_)
       rintro e w5 ⟨rfl,rfl⟩;go_wp2_with fail
       go_region
       all_goals
        go_wp2_with fail
        (with_reducible refine(CZ.out _).mono ?_)
        rintro e w6 ⟨rfl,rfl⟩;go_wp2_with fail
        go_ret
        exact⟨by rw[HE3.out];rfl,zb HB0.out⟩
 . have t1:=zdj hTF;have t1n:(T.toList !=F.toList)=true:=by rw[bne,t1];rfl
   have HE3:Hid (yl s k=8):=zH (by rw[HE.out,if_pos hTF]);clear hTF;go_enter Tryz.func170,Tryz.ntmps170
   go_wp2_with fail
   (with_reducible refine(CS.out _).mono ?_)
   rintro e w5 ⟨rfl,rfl⟩;go_wp2_with fail
   go_region
   all_goals
    go_wp2_with fail
    go_ret
    exact⟨by rw[HE3.out];rfl,zb HB0.out⟩
end Go.Proofs.YtmgfbmkfomebcaaGreatDoor
