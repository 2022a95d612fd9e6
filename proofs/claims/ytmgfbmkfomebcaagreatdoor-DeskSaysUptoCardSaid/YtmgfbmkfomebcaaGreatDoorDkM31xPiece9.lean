/- The reference's JoinOf: the walk. -/
import Derived.Test.YtmgfbmkfomebcaaGreatDoorDkM30
import Derived.Deep.RegionHeld3
set_option linter.unusedVariables false
set_option linter.unusedSimpArgs false
set_option maxRecDepth 100000
set_option maxHeartbeats 16000000
namespace Go.Proofs.YtmgfbmkfomebcaaGreatDoor
open Go.RowKit
theorem Jo{s:ByteArray}{k t:Nat}(h:zJ s k=t):t<256:=by rw[<-h];exact yH _ _
theorem Km(m:Nat)(f:Nat->Nat):zE (m+1) f=zE m f++yi [f m]:=by
 unfold zE yi;apply ByteArray.ext;rw[ByteArray.data_append];simp[List.range_succ]
def zes(ss:List ByteArray)(k:Int)(i:Nat):Prop:=∃L,LenI ss k i L
theorem jF{k:Int}{n:Nat}(h:k<1\/(n:Int)<k\/10<n):qg k n=false:=by
 unfold qg;simp;omega
theorem Vu{ss:List ByteArray}{k:Int}{i:Nat}(h:pl (usB ss k) i≠[]):∃a,(pl (usB ss k) i)[0]?=some a/\a<i/\usB ss k a=true/\(pl (usB ss k) i).headD 0=a:=by
 cases hl:pl (usB ss k) i with
 |nil=>exact absurd hl h
 |cons a t=>
  have hm:a∈pl (usB ss k) i:=by rw[hl];simp
  exact⟨a,rfl,(qv.1 hm).1,(qv.1 hm).2,rfl⟩
theorem YC(ss:List ByteArray)(n:Nat)(ao:Option Addr)(cap:Nat)(k:Int)(w:World)(h:StrsIn w ao n ss):
 Calls Tryz.prog 80 #[.slice ao n cap,.int .i64 k] w (jq ss n k w):=by
 have HL:=zH h.1;have HN63:=h.2.1;have HSZ:=zH h.2.2.1;have HR:=zH h.2.2.2;clear h;by_cases g1:k<1
 . have d1:decide (k<1)=true:=decide_eq_true g1;have HJ:Hid (JoinIs ss n k ByteArray.empty 1):=zH (.inl ⟨jF (.inl g1),rfl,rfl⟩);clear g1;go_enter Tryz.func80,Tryz.ntmps80
   go_wp2_with fail
   go_ret2
   exact⟨_,_,HJ.out,rfl,Below.refl _ _⟩
 have d1:decide (k<1)=false:=decide_eq_false g1;by_cases g2:(n:Int)<k
 . have d2:decide ((n:Int)<k)=true:=decide_eq_true g2;have HJ:Hid (JoinIs ss n k ByteArray.empty 1):=zH (.inl ⟨jF (.inr (.inl g2)),rfl,rfl⟩);clear g1 g2;go_enter Tryz.func80,Tryz.ntmps80
   go_wp2_with fail
   go_ret2
   exact⟨_,_,HJ.out,rfl,Below.refl _ _⟩
 have d2:decide ((n:Int)<k)=false:=decide_eq_false g2;obtain⟨K,rfl⟩:∃K:Nat,k=K:=⟨k.toNat,by omega⟩
 by_cases g3:10<n
 . have d3:decide ((10:Int)<(n:Int))=true:=by simp;omega
   have HJ:Hid (JoinIs ss n K ByteArray.empty 1):=zH (.inl ⟨jF (.inr (.inr g3)),rfl,rfl⟩);go_enter Tryz.func80,Tryz.ntmps80
   go_wp2_with fail
   go_ret2
   exact⟨_,_,HJ.out,rfl,Below.refl _ _⟩
 have d3:decide ((10:Int)<(n:Int))=false:=by simp;omega
 have HRB:Hid (qg (K:Int) n=true):=zH (by unfold qg;simp;omega);have k1:1<=K:=by omega
 have kn:K<=n:=by omega
 have kn':¬n<K:=by omega
 have n10:n<=10:=by omega
 obtain⟨gb,hgb⟩:∃gb,w.heap.size=gb:=⟨_,rfl⟩
 have HGB:=zH hgb;clear g1 g2 g3 hgb;go_enter Tryz.func80,Tryz.ntmps80
 go_wp2_with fail
 go_loopw [6,33] (fun vg vi wr=>∃i:Nat,vi=.int .i64 i/\i<=n/\Hid (zes ss K i)/\Hid (wr.ownsRow gb 3 1 vg (pl (usB ss K) i).length (zZ (pl (usB ss K) i)))/\Hid (Below gb w wr)) (fun _ vi _=>n-(intOf vi).toNat)
 case atStart=>exact⟨0,rfl,by omega,zH ⟨-1,.inl ⟨rfl,rfl⟩⟩,zH (World.ownsRow_nil _ _ _ _),zH (Below.refl _ _)⟩
 case round=>
  obtain⟨i,rfl,hi,HLE,HO,HB⟩:=hrel;obtain⟨wo,rfl⟩:∃wo,wo=wr:=⟨_,rfl⟩
  obtain⟨vg,rfl⟩:∃vg,vg=u6:=⟨_,rfl⟩
  have HB':Hid (Below w.heap.size w wo):=zH (by rw[HGB.out];exact HB.out);by_cases hin:i<n
  . obtain⟨b1,o1,rfl,c1⟩:=(HR.out.below HB'.out) i _ (j4 (by have:=HL.out;omega));have hsz:=HSZ.out _ (ps (ss:=ss) (k:=i) (by have:=HL.out;omega));obtain⟨s,hs⟩:∃s,sAt ss i=s:=⟨_,rfl⟩
    rw[hs]at c1 hsz;have HS:=zH hs;have CC:=zH (fun W=>KK s (K:Int) W hsz);unfold zfj at CC;cases hu:usB ss K i with
    |false=>
     have hne:yl s K≠0:=by unfold usB at hu;rw[hs]at hu;exact of_decide_eq_false hu
     obtain⟨E,hE⟩:∃E,yl s K=E:=⟨_,rfl⟩
     rw[hE]at CC hne;have t1:((E:Int)==0)=false:=by simp;omega
     have HLE2:Hid (zes ss K (i+1)):=zH (by obtain⟨L,hL⟩:=HLE.out;exact⟨L,hL.no hu⟩);have hpl:Hid (pl (usB ss K) (i+1)=pl (usB ss K) i):=zH (by rw[kY,hu,if_neg (by simp)]);clear hs hE hu hne;go_wp2_with fail
     (with_reducible refine(CC.out _).mono ?_)
     rintro e w3 ⟨rfl,hb3⟩;have HO3:Hid (w3.ownsRow gb 3 1 vg (pl (usB ss K) (i+1)).length (zZ (pl (usB ss K) (i+1)))):=zH (by rw[hpl.out];exact zi HO.out hb3);have HB3:Hid (Below gb w w3):=zH (HB.out.trans (hb3.mono (by rw[<-HGB.out];exact HB'.out.size)));clear hb3;go_wp2_with fail
     go_roundw
     case rel=>exact⟨i+1,by go_num,by omega,HLE2,HO3,HB3⟩
     case measure=>simp[intOf];omega
    |true=>
     have heq:yl s K=0:=by unfold usB at hu;rw[hs]at hu;exact of_decide_eq_true hu
     rw[heq]at CC;have hsize:=pD hu;rw[hs]at hsize;have hs5:0<s.size:=by omega
     obtain⟨c,hc⟩:∃c,zJ s 0=c:=⟨_,rfl⟩
     have hfb:qd ss i=c:=by unfold qd;rw[hs,hc]
     have hb2:s[0].toNat=c:=by rw[<-hc];exact yT s 0 hs5
     have hcb:c<256:=by rw[<-hc];exact yH _ _
     have HUU:=zH hu;have HFB:=zH hfb;have hpl:Hid (pl (usB ss K) (i+1)=pl (usB ss K) i++[i]):=zH (by rw[kY,hu,if_pos rfl]);have hlen:=Yp (usB ss K) i;obtain⟨G,hG⟩:∃G,pl (usB ss K) i=G:=⟨_,rfl⟩
     have HG:=zH hG;rw[hG]at HO hpl hlen;obtain⟨lg,hlg⟩:∃lg,G.length=lg:=⟨_,rfl⟩
     have HLG:=zH hlg;rw[hlg]at HO hlen;clear hs hu heq hsize hc hfb hG hlg;rcases Nat.eq_zero_or_pos lg with hl0|hlpos
     . obtain⟨ag,cg,rfl,_,_,_⟩:=zr HO.out;have t2:decide ((0:Int)<(lg:Int))=false:=by simp;omega
       have t2':decide (0<lg)=false:=by simp;omega
       have hGn:G=[]:=List.eq_nil_of_length_eq_zero (by rw[HLG.out];exact hl0);have HLE2:Hid (zes ss K (i+1)):=zH (by
        obtain⟨L,hL⟩:=HLE.out;rcases hL with⟨h1,h2⟩|⟨t,h1,h2,h3,h4⟩
        . exact⟨_,LenI.yes (.inl ⟨h1,h2⟩) HUU.out (.inl h2)⟩
        . exact absurd (HG.out.trans hGn) h3)
       have HL0:=zH hl0;clear hGn hl0;go_wp2_with fail
       (with_reducible refine(CC.out _).mono ?_)
       rintro e w3 ⟨rfl,hb3⟩;have HO3:=zH (zi HO.out hb3);have HB3:Hid (Below gb w w3):=zH (HB.out.trans (hb3.mono (by rw[<-HGB.out];exact HB'.out.size)));clear hb3;go_wp2_with fail
       go_quiet (fail)
       have HO4:=zH (zi HO3.out (yc _ _ nq));have HB4:=zH (zg HB3.out nq);go_wp2_with (first
        |(at_builtin;go_must (refine qR rfl (.tmp 57) (.tmp 59) 62 rfl gb 3 _ 1 8 Tryz.underlying62 JS _ lg _ (by rfl) HO4.out [.int .i64 (i:Int)] (by rfl) rfl (by intro u hu;simp at hu;subst hu;rfl) (by unfold maxLen;omega) (by omega) (by rw[<-HGB.out];exact HB4.out.size) ?_);intro v5 w5 hown5 hgr5 hb5 hat5;have HO5:Hid (w5.ownsRow gb 3 1 v5 (pl (usB ss K) (i+1)).length (zZ (pl (usB ss K) (i+1)))):=zH (by rw[hpl.out,List.length_append,HLG.out,vW];exact hown5);have HB5:=zH (HB4.out.trans hb5);clear hown5 hgr5 hb5 hat5)
        |fail)
       go_roundw
       case rel=>exact⟨i+1,by go_num,by omega,HLE2,HO5,HB5⟩
       case measure=>simp[intOf];omega
     . obtain⟨gg,cg,rfl⟩:=yR HO.out (fun h=>by have:=congrArg List.length h;simp[zZ]at this;rw[this]at HLG;have:=HLG.out;simp at this;omega);have t2:decide ((0:Int)<(lg:Int))=true:=by simp;omega
       have hGne:G≠[]:=fun h=>by have:=HLG.out;rw[h]at this;simp at this;omega
       obtain⟨a,ha1,ha2,ha3,ha4⟩:=Vu (ss:=ss) (k:=K) (i:=i) (by rw[HG.out];exact hGne);rw[HG.out]at ha1;obtain⟨ba,oa,hra,ca⟩:=(zF HO.out) 0 (.int .i64 (a:Int)) (by unfold zZ;rw[List.getElem?_map,ha1];rfl);cases hra;obtain⟨b2,o2,hrb,cs⟩:=(HR.out.below HB'.out) a _ (j4 (by have:=HL.out;omega));cases hrb;obtain⟨s2,hs2⟩:∃s2,sAt ss a=s2:=⟨_,rfl⟩
       rw[hs2]at cs;have hsz2:=pD ha3;rw[hs2]at hsz2;have hs25:0<s2.size:=by omega
       obtain⟨t,ht⟩:∃t,zJ s2 0=t:=⟨_,rfl⟩
       have hft:qd ss a=t:=by unfold qd;rw[hs2,ht]
       have hbt:s2[0].toNat=t:=by rw[<-ht];exact yT s2 0 hs25
       have hLt:Hid (LenI ss K i (t:Int)):=zH (by
        obtain⟨L,hL⟩:=HLE.out;rcases hL with⟨h1,h2⟩|⟨t',h1,h2,h3,h4⟩
        . exact absurd (HG.out.symm.trans h1) hGne
        . have h5:=h4 a (by rw[HG.out];exact List.mem_of_getElem? ha1);rw[hft]at h5;exact .inr ⟨t,Jo ht,rfl,h3,fun b hb=>(h4 b hb).trans h5.symm⟩)
       have a0:(0:Int)<=(a:Int):=by omega
       have an:(a:Int)<(n:Int):=by omega
       have hll:(0:Int)<(lg:Int):=by omega
       clear ha1 ha4 hs2 hsz2 ht hGne HLE;by_cases hct:t=c
       . have d1:((t:Int)==(c:Int))=true:=by simp[hct]
         have d1n:((t:Int)!=(c:Int))=false:=by rw[bne,d1];rfl
         have HLE2:Hid (zes ss K (i+1)):=zH ⟨_,hLt.out.yes HUU.out (.inr (by rw[HFB.out,hct]))⟩;have HCT:=zH hct;clear hct;go_wp2_with fail
         (with_reducible refine(CC.out _).mono ?_)
         rintro e w3 ⟨rfl,hb3⟩;have HO3:=zH (zi HO.out hb3);have ca3:=(hb3.cell (World.block_lt_of_cell? wo _ ca)).trans ca;have cs3:=(hb3.cell (World.block_lt_of_cell? wo _ cs)).trans cs;have HB3:Hid (Below gb w w3):=zH (HB.out.trans (hb3.mono (by rw[<-HGB.out];exact HB'.out.size)));clear hb3;go_wp2_with fail
         go_quiet (fail)
         have HO4:=zH (zi HO3.out (yc _ _ nq));have HB4:=zH (zg HB3.out nq);go_wp2_with (first
          |(at_builtin;go_must (refine qR rfl (.tmp 57) (.tmp 59) 62 rfl gb 3 _ 1 8 Tryz.underlying62 JS _ lg _ (by rfl) HO4.out [.int .i64 (i:Int)] (by rfl) rfl (by intro u hu;simp at hu;subst hu;rfl) (by unfold maxLen;omega) (by omega) (by rw[<-HGB.out];exact HB4.out.size) ?_);intro v5 w5 hown5 hgr5 hb5 hat5;have HO5:Hid (w5.ownsRow gb 3 1 v5 (pl (usB ss K) (i+1)).length (zZ (pl (usB ss K) (i+1)))):=zH (by rw[hpl.out,List.length_append,HLG.out,vW];exact hown5);have HB5:=zH (HB4.out.trans hb5);clear hown5 hgr5 hb5 hat5)
          |fail)
         go_roundw
         case rel=>exact⟨i+1,by go_num,by omega,HLE2,HO5,HB5⟩
         case measure=>simp[intOf];omega
       . have d1:((t:Int)==(c:Int))=false:=by simp;omega
         have d1n:((t:Int)!=(c:Int))=true:=by rw[bne,d1];rfl
         have HJ:Hid (JoinIs ss n K ByteArray.empty 3):=zH (.inr (.inl ⟨HRB.out,hLt.out.differ hin HUU.out (by rw[HFB.out];exact fun e=>hct e.symm),rfl,rfl⟩));clear hct;go_wp2_with fail
         (with_reducible refine(CC.out _).mono ?_)
         rintro e w3 ⟨rfl,hb3⟩;have ca3:=(hb3.cell (World.block_lt_of_cell? wo _ ca)).trans ca;have cs3:=(hb3.cell (World.block_lt_of_cell? wo _ cs)).trans cs;have HB3:Hid (Below gb w w3):=zH (HB.out.trans (hb3.mono (by rw[<-HGB.out];exact HB'.out.size)));clear hb3;go_wp2_with fail
         go_quiet (fail)
         go_wp2_with fail
         go_ret2
         exact⟨_,_,HJ.out,rfl,by rw[HGB.out];exact zg HB3.out _⟩
  . obtain rfl:n=i:=by omega
    have HSAME:Hid (ZH ss K n):=zH (by obtain⟨L,hL⟩:=HLE.out;exact hL.same);obtain⟨G,hG⟩:∃G,pl (usB ss K) n=G:=⟨_,rfl⟩
    have HG:=zH hG;have hgl:=Yp (usB ss K) n;rw[hG]at HO hgl;obtain⟨lg,hlg⟩:∃lg,G.length=lg:=⟨_,rfl⟩
    have HLG:=zH hlg;rw[hlg]at HO hgl;clear hG hlg;by_cases hlK:lg<K
    . have t1:decide ((lg:Int)<(K:Int))=true:=by simp;omega
      have HJ:Hid (JoinIs ss n K ByteArray.empty 9):=zH (.inr (.inr (.inl ⟨HRB.out,HSAME.out,by show(pl (usB ss K) n).length<_;rw[HG.out,HLG.out];exact hlK,rfl,rfl⟩)));obtain⟨ag,cg,rfl,_,_,_⟩:=zr HO.out;go_wp2_with fail
      go_ret2
      exact⟨_,_,HJ.out,rfl,HB'.out⟩
    . have t1:decide ((lg:Int)<(K:Int))=false:=by simp;omega
      have hKl:K<=lg:=by omega
      have HKL:Hid ((K:Int).toNat<=(qz ss K n).length):=zH (by show _<=(pl (usB ss K) n).length;rw[HG.out,HLG.out];exact hKl);have hGne:pl (usB ss K) n≠[]:=fun h=>by have:=HLG.out;rw[<-HG.out,h]at this;simp at this;omega
      obtain⟨gg,cg,rfl⟩:=yR HO.out (fun h=>by have:=congrArg List.length h;simp[zZ]at this;rw[this]at HLG;have:=HLG.out;simp at this;omega);obtain⟨a,ha1,ha2,ha3,ha4⟩:=Vu (ss:=ss) (k:=K) (i:=n) hGne;rw[HG.out]at ha1;have ha1':=ha1;obtain⟨ba,oa,hra,ca⟩:=(zF HO.out) 0 (.int .i64 (a:Int)) (by unfold zZ;rw[List.getElem?_map,ha1];rfl);cases hra;have hft:qd ss a=lenT ss K n:=by unfold lenT qz;rw[ha4]
      have hsz2:=pD ha3;obtain⟨m,hm⟩:∃m,Kx ss K n=m:=⟨_,rfl⟩
      have hsm:(sAt ss a).size=5+m:=hsz2.1.trans (by rw[hft];exact congrArg _ hm);have hmb:m<=60:=by rw[<-hm];exact Nat.le_trans (vG (by omega)) (by rw[<-hft];exact zbu ha3)
      obtain⟨b2,o2,rfl,cs⟩:=HR.out a _ (j4 (by have:=HL.out;omega));have CS0:=zH cs
      replace cs:=(HB'.out.cell (World.block_lt_of_cell? w _ cs)).trans cs
      obtain⟨s2,hs2⟩:∃s2,sAt ss a=s2:=⟨_,rfl⟩
      rw[hs2]at cs hsm CS0;have HLM:=zH hm;have HFT:=zH hft;have HA:=zH (And.intro ha3 hs2);have hsr:=HSZ.out _ (ps (ss:=ss) (k:=a) (by have:=HL.out;omega));rw[hs2]at hsr;have e5:(s2.size:Int)-5=(m:Int):=by omega
      have w5:IntKind.i64.wrap (m:Int)=(m:Int):=IntWalk.i64_in _ (by omega);have a0:(0:Int)<=(a:Int):=by omega
      have an:(a:Int)<(n:Int):=by omega
      have hll:0<lg:=by omega
      have HSM:=zH hsm;clear ha1 ha3 ha4 hft hsz2 hm hs2 hGne HLE hsm;go_wp2_with (first
       |(at_make;refine qh rfl _ _ 22 rfl gb 9 _ 16 Tryz.underlying22 YI rfl _ _ _ _ K (by rfl) (by rfl) rfl rfl (by omega) (by unfold maxLen;omega) (by have:=HO.out.lt gg rfl;omega) ?_;intro w4 hown hg4;have HX0:=zH hown;have HB4:=zH (HB.out.grown hg4 (by rw[<-HGB.out];exact HB'.out.size) (fun q hq=>by cases hq));have HO4:=zH (World.ownsRow.kept (HO.out) hg4 (.inr (fun h=>by cases h)));clear hown hg4)
       |fail)
      obtain⟨gt,hgt⟩:∃gt,wo.heap.size=gt:=⟨_,rfl⟩
      have HGN:Hid (gg≠gt):=zH (by rw[<-hgt];have:=HO.out.lt gg rfl;omega);rw[hgt]at HX0 ⊢;have HX5:Hid (Own w4 gb 9 gt K K (fun j=>.string (zE 0 (fun i=>qr ss K n i j)))):=zH (HX0.out.congr fun j _=>rfl);clear HX0 hgt HB HO HB' ca cs;go_wp2_with fail
      go_loopw [77] (fun vq wr=>∃q:Nat,vq=.int .i64 q/\q<=m/\Hid (Own wr gb 9 gt K K (fun j=>.string (zE q (fun i=>qr ss K n i j))))/\Hid (wr.ownsRow gb 3 1 (.slice (some ⟨gg,0,none⟩) lg cg) lg (zZ G))/\Hid (∀i,i<q->zaP ss K n i)/\Hid (Below gb w wr)) (fun vq _=>m-(intOf vq).toNat)
      case atStart=>exact⟨0,rfl,by omega,HX5,HO4,zH (fun i hi=>by omega),HB4⟩
      case round=>
       clear HX5 HO4 HB4;obtain⟨q,rfl,hq,HX,HO,HF,HB⟩:=hrel;obtain⟨wq,rfl⟩:∃wq,wq=wr:=⟨_,rfl⟩
       have HB':Hid (Below w.heap.size w wq):=zH (by rw[HGB.out];exact HB.out);by_cases hqm:q<m
       . obtain⟨gc,hgc⟩:∃gc,wq.heap.size=gc:=⟨_,rfl⟩
         have HGC:=zH hgc;clear hgc;go_wp2_with fail
         go_loopw [12,82] (fun vc vj wr=>∃j:Nat,vj=.int .i64 j/\j<=n/\Hid (wr.ownsRow gc 168 2 vc j (vV (usB ss K) (bJ ss K q) j))/\Hid (Below gc wq wr)) (fun _ vj _=>n-(intOf vj).toNat)
         case atStart=>exact⟨0,rfl,by omega,zH (World.ownsRow_nil _ _ _ _),zH (Below.refl _ _)⟩
         case round=>
          obtain⟨j,rfl,hj,HC,HBj⟩:=hrel;obtain⟨wj,rfl⟩:∃wj,wj=wr:=⟨_,rfl⟩
          obtain⟨vc,rfl⟩:∃vc,vc=u12:=⟨_,rfl⟩
          have HBj':Hid (Below wq.heap.size wq wj):=zH (by rw[HGC.out];exact HBj.out);have HBw:=zH (HB'.out.trans (HBj'.out.mono HB'.out.size));by_cases hjn:j<n
          . obtain⟨B,hB⟩:∃B,wj.heap.size=B:=⟨_,rfl⟩
            go_wp2_with fail
            obtain⟨W6,hW6⟩:∃W6,wj.alloc (.cells #[.bool false,.int .u8 0] 168)=W6:=⟨_,rfl⟩
            try rw[hB]
            rw[hW6];have hB6:W6.heap[B]?=some (.cells #[.bool false,.int .u8 0] 168):=by rw[<-hW6,<-hB];exact heap_alloc_new _ _
            have hb6:Below wj.heap.size wj W6:=by rw[<-hW6];exact(Below.refl _ _).alloc (Nat.le_refl _) _
            have HB6:=zH hb6;have HBB:=zH hB;have HH6:=zH hB6;have HB6w:=zH (HBw.out.trans (hb6.mono HBw.out.size));have CC:=zH (Kv (j:Int) (G.map fun a:Nat=>(a:Int)) lg (some ⟨gg,0,none⟩) cg W6 (by rw[List.length_map];exact HLG.out) (by omega) (zH (by rw[<-JT];exact zF (zi (zi HO.out HBj'.out) hb6))));have hdec:decide ((j:Int)∈G.map fun a:Nat=>(a:Int))=usB ss K j:=by
             cases hu:usB ss K j with
             |true=>exact decide_eq_true ((JU G j).2 (by rw[<-HG.out];exact qv.2 ⟨hjn,hu⟩))
             |false=>exact decide_eq_false (fun hm=>by
              have:=(JU G j).1 hm;rw[<-HG.out]at this;rw[(qv.1 this).2]at hu;cases hu)
            rw[hdec]at CC;clear hb6 hdec hB6;cases hu:usB ss K j with
            |true=>
             rw[hu]at CC;have hsize:=pD hu;have hfj:qd ss j=lenT ss K n:=HSAME.out j (qv.2 ⟨hjn,hu⟩);obtain⟨b3,o3,hra,c3⟩:=(HR.out.below HB6w.out) j _ (j4 (by have:=HL.out;omega));cases hra;obtain⟨s,hs⟩:∃s,sAt ss j=s:=⟨_,rfl⟩
             rw[hs]at c3 hsize;have hsm:s.size=5+m:=hsize.1.trans (by rw[hfj];exact congrArg _ HLM.out);obtain⟨x,hx⟩:∃x,1+q=x:=⟨_,rfl⟩
             have ex:(1:Int)+(q:Int)=(x:Int):=by omega
             have wx:IntKind.i64.wrap (x:Int)=(x:Int):=IntWalk.i64_in _ (by omega);have hxs:x<s.size:=by omega
             have hbs:=yT s x hxs;have hv:=zdB (i:=q) hu;rw[hs,hx]at hv;obtain⟨y,hy⟩:∃y,zJ s x=y:=⟨_,rfl⟩
             rw[hy]at hbs hv;have HV:=zH hv;have HUU:=zH hu;have HSJ:=zH hsm;clear hu hsize hfj hs hx hy hv hW6 hB hsm
             (with_reducible refine CC.out.mono ?_)
             rintro e w7 ⟨rfl,q7,rfl⟩;have x7:(W6.drewN q7).heap[B]?=some (.cells #[.bool false,.int .u8 0] 168):=HH6.out;obtain⟨y0,y1⟩:=zc2 x7;obtain⟨yf0,yf1⟩:=zf2 x7;have x8:=heap_set (.int .u8 (y:Int)) (j:=1) (heap_set (.bool true) (j:=0) x7);have z0:=zd x8 0;have z1:=zd x8 1;have hb8:Below wj.heap.size wj (((W6.drewN q7).setCell ⟨B,0,none⟩ (.bool true)).setCell ⟨B,1,none⟩ (.int .u8 (y:Int))):=zk (zk (zg HB6.out q7) (by rw[HBB.out];exact Nat.le_refl _) _) (by rw[HBB.out];exact Nat.le_refl _) _;obtain⟨W8,hW8⟩:∃W8,((W6.drewN q7).setCell ⟨B,0,none⟩ (.bool true)).setCell ⟨B,1,none⟩ (.int .u8 (y:Int))=W8:=⟨_,rfl⟩
             rw[hW8]at z0 z1 hb8;have z0':W8.cell? ⟨B,0,none⟩=some (.bool true):=z0;have z1':W8.cell? ⟨B,1,none⟩=some (.int .u8 (y:Int)):=z1;have HC8:=zH (zi HC.out hb8);have HB8:Hid (Below gc wq W8):=zH (HBj.out.trans (hb8.mono (by rw[<-HGC.out];exact HBj'.out.size)));clear x7 x8 z0 z1 hb8 CC;go_wp2_with (first
              |(at_builtin;go_must (refine qR rfl (.tmp 97) (.tmp 99) 166 rfl gc 168 _ 2 2 Tryz.underlying166 VM vc j _ (by rfl) HC8.out [.bool true,.int .u8 (y:Int)] (by rfl) rfl (by intro u hu;simp at hu;rcases hu with rfl|rfl<;>rfl) (by unfold maxLen;omega) (by omega) (by rw[<-HGC.out];exact HB8.out.size) ?_);intro v5 w5 hown5 hgr5 hb5 hat5;have HC5:Hid (w5.ownsRow gc 168 2 v5 (j+1) (vV (usB ss K) (bJ ss K q) (j+1))):=zH (by rw[Xm,HUU.out];unfold gfV;rw[HV.out];exact hown5);have HB5:=zH (HB8.out.trans hb5);clear hown5 hgr5 hb5 hat5)
              |fail)
             go_roundw
             case rel=>exact⟨j+1,by go_num,by omega,HC5,HB5⟩
             case measure=>simp[intOf];omega
            |false=>
             rw[hu]at CC;have hv:=zfo (i:=q) hu;have HV:=zH hv;have HUU:=zH hu;clear hu hv hW6 hB
             (with_reducible refine CC.out.mono ?_)
             rintro e w7 ⟨rfl,q7,rfl⟩;have x7:(W6.drewN q7).heap[B]?=some (.cells #[.bool false,.int .u8 0] 168):=HH6.out;obtain⟨y0,y1⟩:=zc2 x7;have hb8:Below wj.heap.size wj (W6.drewN q7):=zg HB6.out q7;obtain⟨W8,hW8⟩:∃W8,W6.drewN q7=W8:=⟨_,rfl⟩
             rw[hW8]at y0 y1 hb8 ⊢;have HC8:=zH (zi HC.out hb8);have HB8:Hid (Below gc wq W8):=zH (HBj.out.trans (hb8.mono (by rw[<-HGC.out];exact HBj'.out.size)));clear x7 hb8 CC hW8;go_wp2_with (first
              |(at_builtin;go_must (refine qR rfl (.tmp 97) (.tmp 99) 166 rfl gc 168 _ 2 2 Tryz.underlying166 VM vc j _ (by rfl) HC8.out [.bool false,.int .u8 0] (by rfl) rfl (by intro u hu;simp at hu;rcases hu with rfl|rfl<;>rfl) (by unfold maxLen;omega) (by omega) (by rw[<-HGC.out];exact HB8.out.size) ?_);intro v5 w5 hown5 hgr5 hb5 hat5;have HC5:Hid (w5.ownsRow gc 168 2 v5 (j+1) (vV (usB ss K) (bJ ss K q) (j+1))):=zH (by rw[Xm,HUU.out];unfold gfV;rw[HV.out];exact hown5);have HB5:=zH (HB8.out.trans hb5);clear hown5 hgr5 hb5 hat5)
              |fail)
             go_roundw
             case rel=>exact⟨j+1,by go_num,by omega,HC5,HB5⟩
             case measure=>simp[intOf];omega
          . obtain rfl:n=j:=by omega
            obtain⟨ac,cc,rfl,hRc,_,_⟩:=zr HC.out;have CM:=zH (X7 (usB ss K) (bJ ss K q) n K ac cc wj (by omega) k1 kn (zH hRc));unfold kN at CM;have HXj:=zH (HX.out.below HBj'.out);have HOj:=zH (zi HO.out HBj'.out);clear hRc HC HBj;go_wp2_with fail
            (with_reducible refine CM.out.mono ?_)
            rintro e w7 ⟨hb7,⟨few,rfl⟩|⟨enough,nofit,rfl⟩|⟨enough,X8,v7,rfl,hown7⟩⟩
            . exact absurd few (by rw[HG.out,HLG.out];omega)
            . have HJ:Hid (JoinIs ss n K ByteArray.empty 8):=zH (.inr (.inr (.inr (.inl ⟨HRB.out,HSAME.out,HKL.out,fun hall=>nofit (hall q (by rw[HLM.out];exact hqm)),rfl,rfl⟩))));have HB7:=zH (HBw.out.trans (hb7.mono HBw.out.size));clear nofit enough hb7;go_wp2_with fail
              go_ret2
              exact⟨_,_,HJ.out,rfl,HB7.out⟩
            . obtain⟨gr,cr,rfl⟩:=yR hown7 (fun h=>by have:=congrArg List.length h;rw[zC]at this;simp at this;omega);have hrow:Own w7 wj.heap.size 5 gr n cr (gfV fun j=>qn (bJ ss K q) (pl (usB ss K) n) K (gf j)):=hown7;have HRW:=zH hrow.reads;have hrl:=hrow.lt;have HX7:Hid (Own w7 gb 9 gt K K (fun j=>.string (if j<0 then zE (q+1) (fun i=>qr ss K n i j) else zE q (fun i=>qr ss K n i j)))):=zH ((HXj.out.below hb7).congr fun j _=>by rw[if_neg (by omega)]);have HO7:=zH (zi HOj.out hb7);have HGR:Hid (gt≠gr):=zH (by have:=HXj.out.lt;omega);have HB7:Hid (Below gb w w7):=zH (by
               have h1:=HBw.out.trans (hb7.mono HBw.out.size);rw[<-HGB.out];exact h1)
              have HFT:=zH X8;clear enough X8 hown7 hrow hrl hb7 HXj HOj CM;go_wp2_with fail
              go_loopw [112] (fun vj wr=>∃j:Nat,vj=.int .i64 j/\j<=K/\Hid (Own wr gb 9 gt K K (fun x=>.string (if x<j then zE (q+1) (fun i=>qr ss K n i x) else zE q (fun i=>qr ss K n i x))))/\Hid (wr.ownsRow gb 3 1 (.slice (some ⟨gg,0,none⟩) lg cg) lg (zZ G))/\Hid (Reads wr (some ⟨gr,0,none⟩) (zX n (gfV fun j=>qn (bJ ss K q) (pl (usB ss K) n) K (gf j))))/\Hid (Below gb w wr)) (fun vj _=>K-(intOf vj).toNat)
              case atStart=>exact⟨0,rfl,by omega,HX7,HO7,HRW,HB7⟩
              case round=>
               clear HX7 HO7 HRW HB7 HX HO HB HBw HB' HBj';obtain⟨j,rfl,hj,HX,HO,HRW,HB⟩:=hrel;obtain⟨wz,rfl⟩:∃wz,wz=wr:=⟨_,rfl⟩
               by_cases hjK:j<K
               . obtain⟨br,orr,hra,cr1⟩:=HRW.out j _ (zG _ (show j<n by omega));cases hra;rw[Nat.zero_add]at cr1;have hcv:gfV (fun j=>qn (bJ ss K q) (pl (usB ss K) n) K (gf j)) j=.int .u8 (qr ss K n q j:Nat):=rfl;rw[hcv]at cr1;have hyb:=Ky ss K n q j;obtain⟨y,hy⟩:∃y,qr ss K n q j=y:=⟨_,rfl⟩
                 rw[hy]at cr1 hyb;have px:=HX.out.cell hjK;rw[if_neg (Nat.lt_irrefl _)]at px;obtain⟨P,hP⟩:∃P,zE q (fun i=>qr ss K n i j)=P:=⟨_,rfl⟩
                 rw[hP]at px;have hPs:P.size=q:=by rw[<-hP];exact jE _ _
                 have pf:=HX.out.frozen j;have hba:Below wz.heap.size wz (wz.alloc (.cells #[.int .u8 (y:Int)] 5)):=(Below.refl _ _).alloc (Nat.le_refl _) _;have HXa:=HX.out.below hba;have px2:=(hba.cell (World.block_lt_of_cell? wz _ px)).trans px;have cr2:=(hba.cell (World.block_lt_of_cell? wz _ cr1)).trans cr1;have pf2:=HXa.frozen j;have KC:(convert 113 9 (.slice (some ⟨wz.heap.size,0,none⟩) 1 1)).run Tryz.prog (wz.alloc (.cells #[.int .u8 (y:Int)] 5))=.ok (.string (yi [y])) (wz.alloc (.cells #[.int .u8 (y:Int)] 5)):=qO [y] (some ⟨wz.heap.size,0,none⟩) 1 _ (by intro c hc;simp at hc;omega) (fun h=>by cases h) (yK wz _ _);have KC2:(convert 113 9 (.slice (some ⟨wz.heap.size,0,none⟩) 1 1)).run Tryz.prog (wz.alloc (.cells #[.int .u8 (y:Int)] 5)).drew=.ok (.string (yi [y])) (wz.alloc (.cells #[.int .u8 (y:Int)] 5)).drew:=qO [y] (some ⟨wz.heap.size,0,none⟩) 1 _ (by intro c hc;simp at hc;omega) (fun h=>by cases h) (yK wz _ _);have hys:(yi [y]).size=1:=by rw[yX];rfl
                 have hnew:Hid (zE (q+1) (fun i=>qr ss K n i j)=P++yi [y]):=zH (by rw[Km,hP];show P++yi [qr ss K n q j]=_;rw[hy]);obtain⟨Y,hY⟩:∃Y,yi [y]=Y:=⟨_,rfl⟩
                 rw[hY]at KC KC2 hys hnew;have A9:=HXa.store j (.string (P++Y));have HX9:Hid (Own ((wz.alloc (.cells #[.int .u8 (y:Int)] 5)).setCell ⟨gt,j,none⟩ (.string (P++Y))) gb 9 gt K K (fun x=>.string (if x<j+1 then zE (q+1) (fun i=>qr ss K n i x) else zE q (fun i=>qr ss K n i x)))):=zH (A9.1.congr fun x _=>by
                  by_cases hxj:x=j
                  . subst hxj;rw[if_pos rfl,if_pos (by omega),hnew.out]
                  . rw[if_neg hxj];by_cases h2:x<j
                    . rw[if_pos h2,if_pos (by omega)]
                    . rw[if_neg h2,if_neg (by omega)])
                 have HO9:=zH (World.ownsRow.kept (zi HO.out hba) A9.2 (.inr (fun he=>by injection he with he;exact HGN.out he)));have HR9:=zH ((HRW.out.below hba).grown A9.2 (fun a ha=>by cases ha;intro he;injection he with he;exact HGR.out he.symm));have HB9:Hid (Below gb w ((wz.alloc (.cells #[.int .u8 (y:Int)] 5)).setCell ⟨gt,j,none⟩ (.string (P++Y)))):=zH (zk (HB.out.alloc (by have:=HX.out.lt;omega) _) HX.out.lt.1 _);have hsum:¬(9223372036854775807<q+1):=by omega
                 have j0:(0:Int)<=(j:Int):=by omega
                 have j1:(j:Int)<(K:Int):=by omega
                 have j2:(j:Int)<(n:Int):=by omega
                 clear hcv hy hP hY A9 hba HXa;go_wp2_with fail
                 go_region
                 all_goals
                  go_wp2_with fail
                  go_roundw
                  case rel=>exact⟨j+1,by go_num,by omega,zH (HX9.out.below (yc _ _ 1)),zH (zi HO9.out (yc _ _ 1)),zH (HR9.out.below (yc _ _ 1)),zH (zb HB9.out)⟩
                  case measure=>simp[intOf];omega
               . obtain rfl:K=j:=by omega
                 have HX9:Hid (Own wz gb 9 gt K K (fun x=>.string (zE (q+1) (fun i=>qr ss K n i x)))):=zH (HX.out.congr fun x hx=>by rw[if_pos hx]);have HF9:Hid (∀i,i<q+1->zaP ss K n i):=zH (fun i hi=>by
                  by_cases hiq:i=q
                  . subst hiq;exact HFT.out
                  . exact HF.out i (by omega))
                 go_wp2_with fail
                 go_roundw
                 case rel=>exact⟨q+1,by go_num,by omega,HX9,HO,HF9,HB⟩
                 case measure=>simp[intOf];omega
       . obtain rfl:m=q:=by omega
         obtain⟨t,ht⟩:∃t,lenT ss K n=t:=⟨_,rfl⟩
         have hb2:s2[0]'(by have:=HSM.out;omega)=s2[0]'(by have:=HSM.out;omega):=rfl;have hbt:(s2[0]'(by have:=HSM.out;omega)).toNat=t:=by
          rw[yT s2 0 (by have:=HSM.out;omega),<-ht,<-HFT.out];unfold qd;rw[HA.out.2]
         have ht60:t<=60:=by rw[<-ht,<-HFT.out];exact zbu HA.out.1
         have htQ:t<=K*m:=by
          have h1:=QM (T:=t) k1;rw[show yZ t K=m from by have:=HLM.out;unfold Kx at this;rw[ht]at this;exact this,Nat.mul_comm]at h1;exact h1
         have hjp:=zaZ m K t (fun j i=>qr ss K n i j) htQ;have HJ:Hid (JoinIs ss n K (zE t (kO ss K n)) 0):=zH (.inr (.inr (.inr (.inr ⟨HRB.out,HSAME.out,HKL.out,fun i hi=>HF.out i (by rw[HLM.out]at hi;exact hi),by rw[ht],rfl⟩))));have hte:zE t (fun p=>qr ss K n (p%m) (p / m))=zE t (kO ss K n):=pM fun p _=>by unfold kO;rw[HLM.out]
         rw[hte]at hjp;obtain⟨S,hS⟩:∃S,zE t (kO ss K n)=S:=⟨_,rfl⟩
         rw[hS]at hjp HJ;have hjl:(Lib.join ((qD K fun j=>zE m (fun i=>qr ss K n i j)).map (·.data.toList)) (ByteArray.mk #[]).data.toList).length=K*m:=by
          rw[show(ByteArray.mk #[]).data.toList=[] from rfl,Xn];unfold qD;rw[List.map_map];have:=congrArg List.length (Qa m (fun j i=>qr ss K n i j) K);simpa[Function.comp_def]using this
         have hKm:K*m<=600:=Nat.mul_le_mul (show K<=10 by omega) hmb;have CJ:=zH (zc8 gt 0 K (qD K fun j=>zE m (fun i=>qr ss K n i j)) K ⟨#[]⟩ wq.drew (pW _ _) (fun j x hx=>by
          have hjk:j<K:=by have:=(List.getElem?_eq_some_iff.1 hx).1;rwa [pW]at this
          have h1:wq.cell? ⟨gt,j,none⟩=_:=HX.out.cell hjk;rw[Nat.zero_add];show wq.cell? _=_;rw[h1];unfold qD at hx;rw[List.getElem?_map]at hx;simp[hjk]at hx;rw[<-hx]) HX.out.lt.2 (by omega) (Nat.le_refl _) (by rw[hjl];omega))
         obtain⟨J,hJJ⟩:∃J,(⟨(Lib.join ((qD K fun j=>zE m (fun i=>qr ss K n i j)).map (·.data.toList)) (ByteArray.mk #[]).data.toList).toArray⟩:ByteArray)=J:=⟨_,rfl⟩
         rw[hJJ]at CJ hjp;have hJs:t<=J.size:=by rw[<-hJJ];show t<=(List.toArray _).size;rw[List.size_toArray,hjl];exact htQ
         obtain⟨ba,oa,hra,ca⟩:=(zF HO.out) 0 (.int .i64 (a:Int)) (by unfold zZ;rw[List.getElem?_map,ha1'];rfl);cases hra;have cs:=(HB'.out.cell (World.block_lt_of_cell? w _ CS0.out)).trans CS0.out;have hs20:0<s2.size:=by have:=HSM.out;omega
         have hbt2:s2[0].toNat=t:=hbt;have HJS:=zH hjp;clear hS hte hjl hJJ hb2 hbt ht HSM HLM HFT;have hbt1:(s2.data[0]'(by have:s2.size=s2.data.size:=rfl;omega)).toNat=t:=hbt2;have ca2:wq.drew.cell? ⟨gg,0+0,none⟩=some (.int .i64 (a:Int)):=ca;have cs2:wq.drew.cell? ⟨b2,o2+a,none⟩=some (.string s2):=cs;go_wp2_with fail
         go_region_held3 (fun w'=>w'.cell? ⟨gg,0+0,none⟩=some (.int .i64 (a:Int))/\w'.cell? ⟨b2,o2+a,none⟩=some (.string s2)) (first|exact⟨(hb5.cell (World.block_lt_of_cell? wq.drew _ ca2)).trans ca2,(hb5.cell (World.block_lt_of_cell? wq.drew _ cs2)).trans cs2⟩|exact⟨ca,cs⟩|go_keep)
          (first|(go_at_call 117;(with_reducible refine CJ.out.mono ?_);rintro e w5 ⟨rfl,hb5⟩))
         all_goals
          have HB9:Hid (Below w.heap.size w w5):=zH ((zb HB'.out).trans (hb5.mono (show w.heap.size<=wq.drew.heap.size from HB'.out.size)));clear hb5 CJ
          try rw[hjp]
          go_wp2_with fail
          go_ret2
          exact⟨_,_,HJ.out,rfl,HB9.out⟩
end Go.Proofs.YtmgfbmkfomebcaaGreatDoor
