/- package store: put. -/
import Derived.Test.YtmgfbmkfomebcaaGreatDoorDkM15
import Derived.Test.YtmgfbmkfomebcaaGreatDoorDkM16
import Derived.Deep.RegionHeld
import Derived.Test.YtmgfbmkfomebcaaGreatDoorDkM10
import Derived.Test.YtmgfbmkfomebcaaGreatDoorDkM2
set_option linter.unusedVariables false
set_option linter.unusedSimpArgs false
set_option maxRecDepth 100000
set_option maxHeartbeats 8000000
namespace Go.Proofs.YtmgfbmkfomebcaaGreatDoor
open Go.RowKit
theorem zcK{w:World}{base:Nat}{Av:Nat->Prop}{n k wr0 r b nb:Nat}{V:Nat->Nat->Value}{st:St}(kind:Int)(key:Nat)(m:Int)(text:ByteArray)(hkey:key<3)(ht:text.size<=9223372036854775807)(hk1:1<=k)(hkn:k<=n)(hn:n<=10)(h:Shf w base Av n k wr0 r b nb V st):
 Calls Tryz.prog 93 #[.pointer (some ⟨b,0,none⟩),deedV kind (key:Int) m text] w (kJ base Av n k wr0 r b nb (ZZ n k wr0 st key text) w):=by
 obtain⟨W1,hW1⟩:∃W1,(w.alloc (.cells #[.int .i64 kind,.int .i64 (key:Int),.int .i64 m,.string text] 66)).alloc (.cells #[.string ⟨#[]⟩,.int .i64 0,.int .i64 0,.int .i64 0] 70)=W1:=⟨_,rfl⟩
 have hb01:Below w.heap.size w (w.alloc (.cells #[.int .i64 kind,.int .i64 (key:Int),.int .i64 m,.string text] 66)):=zc _ _;have hb1:Below w.heap.size w W1:=by rw[<-hW1];exact hb01.alloc (by simp) _
 have hd1:W1.heap[w.heap.size]?=some (.cells #[.int .i64 kind,.int .i64 (key:Int),.int .i64 m,.string text] 66 (0,0)):=by
  rw[<-hW1];exact za _ _ (heap_alloc_new w _)
 have hr1:W1.heap[w.heap.size+1]?=some (.cells #[.string ⟨#[]⟩,.int .i64 0,.int .i64 0,.int .i64 0] 70 (0,0)):=by
  rw[<-hW1];exact zl _ _ _ (by simp)
 have hsz1:W1.heap.size=w.heap.size+2:=by rw[<-hW1];simp
 have CS:=zH (ZK text ht hk1 hkn hn (h.below hb1));unfold KQ at CS;have HS:=zH h;have HB1:=zH hb1;have HD1:=zH hd1;have HR1:=zH hr1;have HZ1:=zH hsz1;obtain⟨E,hE⟩:∃E,qM n wr0 st text=E:=⟨_,rfl⟩
 have HE:=zH hE;rw[hE]at CS;have HW1:=zH hW1;have d1:=zd hd1 1;have d3:=zd hd1 3;simp only[List.getElem?_toArray,List.getElem?_cons_zero,List.getElem?_cons_succ]at d1 d3;clear h hb01 hb1 hd1 hr1 hsz1 hE;go_enter Tryz.func93,Tryz.ntmps93
 go_wp2_with fail
 (with_reducible refine CS.out.mono ?_)
 clear hW1;rintro e w2 (⟨hne,rfl,hb2⟩|⟨h0,g,rfl,hown2,hb2⟩)
 . have r2:=(hb2.block (w.heap.size+1) (by rw[HZ1.out];omega)).trans HR1.out;obtain⟨r0,r1,r2',r3⟩:=zc4 r2;obtain⟨f0,f1,f2,f3⟩:=zf4 r2;have t0:((E:Int)!=0)=true:=by simp;omega
   have HB2:Hid (Below w.heap.size w w2):=zH (HB1.out.trans (hb2.mono HB1.out.size));have HNE:=zH hne;have tc:=yg r2 (.string ⟨#[]⟩) (.int .i64 0) (.int .i64 0) (.int .i64 0);have HW:=zH (HS.out.wide HB2.out);have HK:=zH (HS.out.kept HB2.out);have HAV:Hid (∀g,Av g->g≠w.heap.size+1):=zH fun g hg=>by have:=HS.out.avlt g hg;omega
   have HBS:Hid (base<=w.heap.size+1):=zH (by have:=HS.out.hb;have:=HS.out.blt;omega);have HRA:Hid (WideA Av w.heap.size w2.heap.size (w.heap.size+1)):=zH (WideA.new (by omega) (by have:=hb2.size;have:=HZ1.out;omega));have HD:=zH (Qm HW.out HK.out (fun x hx=>WideA.old hx) HRA.out HAV.out HBS.out (.string ⟨#[]⟩) (.int .i64 0) (.int .i64 0) (.int .i64 0));obtain⟨tc0,tc1,tc2,tc3⟩:=tc;clear r2 hb2 hne;go_wp2_with fail
   refine bodyPost_ret (v:=.tuple #[.agg #[.string ⟨#[]⟩,.int .i64 0,.int .i64 0,.int .i64 0],.int .i64 (E:Nat)]) (by simp[results,Tryz.results93,go_sem,tc0,tc1,tc2,tc3];try rfl) rfl ?_;have hF:ZZ n k wr0 st key text=(st,Tl.no,E):=by unfold ZZ;rw[if_pos (by rw[HE.out];exact HNE.out),HE.out]
   rw[hF];exact⟨rfl,HD.out⟩
 . have HB2:Hid (Below w.heap.size w w2):=zH (HB1.out.trans (hb2.mono HB1.out.size));have HZ2:Hid (w.heap.size+2<=w2.heap.size):=zH (by have:=hb2.size;have:=HZ1.out;omega);have HW2:=zH (HS.out.wide HB2.out);have HK2:=zH (HS.out.kept HB2.out);have HD2:=zH ((hb2.block w.heap.size (by rw[HZ1.out];omega)).trans HD1.out);have HR2:=zH ((hb2.block (w.heap.size+1) (by rw[HZ1.out];omega)).trans HR1.out);have HP2:=zH hown2;have hE0:qM n wr0 st text=0:=by rw[HE.out];exact h0
   obtain⟨ht60,_,hwr⟩:=Vy hE0;have hP3:=HW2.out.put_wr hwr;obtain⟨W3,hW3⟩:∃W3,w2.setCell ⟨b,5,none⟩ (.int .i64 ((st.wr+1:Nat):Int))=W3:=⟨_,rfl⟩
   have c5:=HW2.out.cells.2.2.2.2.2;have fb5:=HW2.out.frozen 5;rw[hW3]at hP3;have x5:=hP3.1.cells.2.2.2.2.2;have HP3:=zH hP3;have HT60:=zH ht60;have HOKU:=zH (HS.out.ok.up1 hwr);have HWR:=zH hwr;have HE0:=zH hE0;have hw6:=HS.out.ok.w6;obtain⟨A,hA⟩:∃A,st.wr+1=A:=⟨_,rfl⟩
   have hA6:A<=1000000:=by omega
   have wadd:((st.wr:Nat):Int)+1=(A:Int):=by omega
   have x5':W3.cell? ⟨b,5,none⟩=some (.int .i64 (A:Int)):=by rw[x5];rw[<-hA];rfl
   rw[hA]at hW3;clear x5 hP3 hE0 hwr hw6 h0 hown2 hb2 HB1 HD1 HR1 CS;have HS4:=zH (HP3.out.1.below (zc W3 (.cells #[.int .i64 (A:Int),.int .i64 0] 68)));have CU:=zH (pj hn HS4.out);unfold kr at CU;have hups:ups n st.up1=ups n st:=rfl;rw[hups]at CU;have HUM:Hid (∀i,i∈ups n st->i<n):=zH fun i hi=>(vP.1 hi).1
   obtain⟨U,hU⟩:∃U,ups n st=U:=⟨_,rfl⟩
   rw[hU]at CU HUM;obtain⟨u,hu⟩:∃u,U.length=u:=⟨_,rfl⟩
   have hul:u<=10:=by have:=kz n st;rw[hU,hu]at this;omega
   rw[hu]at CU;have HU:=zH hU;have HUL:=zH hu;have HA:=zH hA;have HW3:=zH hW3;clear hups hU hu;go_wp2_with fail
   (with_reducible refine CU.out.mono ?_)
   rintro e w5 ⟨ao5,cap5,rfl,hown5,hb5⟩;clear CU hW3 hA wadd;have hb35:Below W3.heap.size W3 w5:=(zc W3 (.cells #[.int .i64 (A:Int),.int .i64 0] 68)).trans (hb5.mono (by simp));have hsz4:W3.heap.size<w5.heap.size:=by have:=hb5.size;simp at this;omega
   have HSx:=zH (HP3.out.1.wide hb35);have HKx:=zH (HK2.out.trans ((HP3.out.2.narrow (fun x hx=>WideA.old hx)).trans ((HP3.out.1.kept hb35).narrow (fun x hx=>WideA.old hx))));have ha5:w5.heap[W3.heap.size]?=some (.cells #[.int .i64 (A:Int),.int .i64 0] 68 (0,0)):=(hb5.block _ (by simp)).trans (heap_alloc_new W3 _);obtain⟨ao5',cap5',hv,hR5,_,_⟩:=zr hown5;cases hv;have HAO:Hid (∀a,ao5=some a->W3.heap.size<=a.block/\a.block<w5.heap.size):=zH fun a ha=>by
    have:=hown5.lt a.block (by rw[ha];rfl);simp at this;omega
   have hd5:w5.heap[w.heap.size]?=some (.cells #[.int .i64 kind,.int .i64 (key:Int),.int .i64 m,.string text] 66 (0,0)):=(hb35.block _ (HP3.out.1.avlt _ (WideA.new (Nat.le_refl _) (by have:=HZ2.out;omega)))).trans ((HP3.out.2.blk _ (WideA.new (Nat.le_refl _) (by have:=HZ2.out;omega))).trans HD2.out);have hr5:w5.heap[w.heap.size+1]?=some (.cells #[.string ⟨#[]⟩,.int .i64 0,.int .i64 0,.int .i64 0] 70 (0,0)):=(hb35.block _ (HP3.out.1.avlt _ (WideA.new (by omega) (by have:=HZ2.out;omega)))).trans ((HP3.out.2.blk _ (WideA.new (by omega) (by have:=HZ2.out;omega))).trans HR2.out);have hgl:=HP2.out.lt;have hgA:WideA Av w.heap.size w2.heap.size g:=WideA.new (by have:=HZ1.out;omega) hgl.2;have hp5:∀i,i<n->w5.cell? ⟨g,i,none⟩=some (.string (pcs text k i)):=fun i hi=>(hb35.cell (p:=⟨g,i,none⟩) (HP3.out.1.avlt _ hgA)).trans (HP3.out.2.cell hgA (HP2.out.cell hi))
   have HD5:=zH hd5;have HR5:=zH hr5;have HP5:=zH hp5;have HA5:=zH ha5;have HGA:=zH hgA;have HRU:=zH hR5;have HZ5:=zH hsz4;have HXA:Hid (WideA (WideA Av w.heap.size w2.heap.size) W3.heap.size w5.heap.size w.heap.size):=zH (WideA.old (WideA.new (Nat.le_refl _) (by have:=HZ2.out;omega)));have HXR:Hid (WideA (WideA Av w.heap.size w2.heap.size) W3.heap.size w5.heap.size (w.heap.size+1)):=zH (WideA.old (WideA.new (by omega) (by have:=HZ2.out;omega)));have HXG:Hid (WideA (WideA Av w.heap.size w2.heap.size) W3.heap.size w5.heap.size g):=zH (WideA.old hgA);have HXT:Hid (WideA (WideA Av w.heap.size w2.heap.size) W3.heap.size w5.heap.size W3.heap.size):=zH (WideA.new (Nat.le_refl _) hsz4);have HXU:Hid (∀a,ao5=some a->WideA (WideA Av w.heap.size w2.heap.size) W3.heap.size w5.heap.size a.block):=zH fun a ha=>WideA.new (HAO.out a ha).1 (HAO.out a ha).2
   obtain⟨Ax,hAx⟩:∃Ax,WideA (WideA Av w.heap.size w2.heap.size) W3.heap.size w5.heap.size=Ax:=⟨_,rfl⟩
   have HOA:Hid (∀x,Av x->Ax x):=zH fun x hx=>hAx ▸ WideA.old (WideA.old hx)
   rw[hAx]at HSx HXA HXR HXG HXT HXU;clear hd5 hr5 hp5 ha5 hgA hgl hR5 hsz4 hown5 hb5 hb35 hAx HP3 HP2 HD2 HR2 HW2 HK2 HGA HAO HS4;go_wp2_with fail
   go_loopw [37] (fun vj wr=>∃(j:Nat) (V':Nat->Nat->Value),vj=.int .i64 j/\j<=u/\Hid (Shf wr base Ax n k wr0 r b nb V' ((U.take j).foldl (putS A k text key) st.up1))/\Hid (Kept Ax base w5 wr)) (fun vj _=>u-(intOf vj).toNat)
   case atStart=>exact⟨0,V,rfl,by omega,HSx,zH (Kept.refl _ _ _)⟩
   case round=>
    clear HSx;obtain⟨j,V',rfl,hj,HSj,HKj⟩:=hrel;obtain⟨wq,rfl⟩:∃wq,wq=wr:=⟨_,rfl⟩
    by_cases hju:j<u
    . obtain⟨i,hi⟩:∃i,U[j]?=some i:=⟨U[j]'(by rw[HUL.out];exact hju),List.getElem?_eq_getElem _⟩
      have hin:=HUM.out i (List.mem_of_getElem? hi);obtain⟨bu,ou,hra,xu⟩:=(HKj.out.reads HXU.out HRU.out) j _ (yN hi);cases hra;have HF:=zH (jb (putS A k text key) st.up1 hi);have hS:=HSj.out;have x4:=hS.cells.2.2.2.2.1;have xk:=hS.kpc hin hkey;have fk:=hS.nodes.frozen (i*4+1+key);have xd:=HKj.out.cell HXA.out (o:=1) (c:=.int .i64 (key:Int)) (by rw[zd HD5.out];rfl);have xt0:=HKj.out.cell HXT.out (o:=0) (c:=.int .i64 (A:Int)) (by rw[zd HA5.out];rfl);have xt1:=HKj.out.cell HXT.out (o:=1) (c:=.int .i64 0) (by rw[zd HA5.out];rfl);have xp:=HKj.out.cell HXG.out (HP5.out i hin);obtain⟨PC,hPC⟩:∃PC,pcs text k i=PC:=⟨_,rfl⟩
      rw[hPC]at xp;have HPC:=zH hPC;have i0:(0:Int)<=(i:Int):=by omega
      have i1:(i:Int)<(n:Int):=by omega
      have y0:(0:Int)<=(key:Int):=by omega
      have y1:(key:Int)<3:=by omega
      have hnl:=hS.nodes.lt.2;have hba:=zc wq (.cells #[.int .i64 (A:Int),.int .i64 0,.string PC] 106);have xk2:=(hba.cell (p:=⟨nb,i*4+1+key,none⟩) hnl).trans xk;have fk2:=(hba.frozen (p:=⟨nb,i*4+1+key,none⟩) hnl).trans fk;have HNE:Hid (b≠nb/\w.heap.size≠nb/\W3.heap.size≠nb/\g≠nb):=zH ⟨hS.nbb,(hS.av _ HXA.out).2.2,(hS.av _ HXT.out).2.2,(hS.av _ HXG.out).2.2⟩;clear hi hPC hS hba;go_wp2_with fail
      go_region_held (fun w'=>w'.cell? ⟨b,4,none⟩=some (.slice (some ⟨nb,0,none⟩) n n)/\w'.cell? ⟨w.heap.size,1,none⟩=some (.int .i64 (key:Int))/\w'.cell? ⟨W3.heap.size,0,none⟩=some (.int .i64 (A:Int))/\w'.cell? ⟨W3.heap.size,1,none⟩=some (.int .i64 0)/\w'.cell? ⟨g,i,none⟩=some (.string PC)) (first|exact⟨jn HNE.out.1 x4,jn HNE.out.2.1 xd,jn HNE.out.2.2.1 xt0,jn HNE.out.2.2.1 xt1,jn HNE.out.2.2.2 xp⟩|go_keep) (fail)
      all_goals
       have hnew:=HSj.out.put_row hin hkey (Jb wq (.cells #[.int .i64 (A:Int),.int .i64 0,.string PC] 106) (V' i key).ownBlock) (zcY wq base A PC (Nat.le_trans HSj.out.hb (Nat.le_of_lt HSj.out.blt))) (.inr ⟨wq.heap.size,rfl,Nat.le_refl _⟩)
        (by
         have h1:=Yi (a:=A) (k:=k) (key:=key) HT60.out hk1 (by have:=HA.out;omega) (U.take j) st.up1 (HOKU.out) (by rw[<-HA.out];exact Nat.le_refl _);exact h1.1.put i key A (by have:=HA.out;omega) (by rw[h1.2.1,<-HA.out];exact Nat.le_refl _) (by rw[<-HPC.out];exact kM _ _ _ HT60.out hk1))
       rw[World.setCell_alloc_past _ _ _ _ hnl]at hnew;have HN:Hid (∃V2,Shf ((wq.setCell ⟨nb,i*4+1+key,none⟩ (.slice (some ⟨wq.heap.size,0,none⟩) 1 1)).alloc (.cells #[.int .i64 (A:Int),.int .i64 0,.string PC] 106)).drew base Ax n k wr0 r b nb V2 ((U.take (j+1)).foldl (putS A k text key) st.up1)):=zH ⟨_,by rw[HF.out];unfold putS;rw[HPC.out];exact hnew.1.below (zb (Below.refl _ _))⟩;have HK:Hid (Kept Ax base w5 ((wq.setCell ⟨nb,i*4+1+key,none⟩ (.slice (some ⟨wq.heap.size,0,none⟩) 1 1)).alloc (.cells #[.int .i64 (A:Int),.int .i64 0,.string PC] 106)).drew):=zH (HKj.out.trans (hnew.2.trans ⟨zb (Below.refl _ _),fun _ _=>rfl⟩));obtain⟨V2,hN⟩:=HN.out;have HN2:=zH hN;clear hnew hN;go_wp2_with fail
       go_roundw
       case rel=>exact⟨j+1,V2,by go_num,by omega,HN2,HK⟩
       case measure=>simp[intOf];omega
    . obtain rfl:u=j:=by omega
      have r5:=(HKj.out.blk _ HXR.out).trans HR5.out;obtain⟨r0,r1,r2',r3⟩:=zc4 r5;obtain⟨f0,f1,f2,f3⟩:=zf4 r5;have xt0:=HKj.out.cell HXT.out (o:=0) (c:=.int .i64 (A:Int)) (by rw[zd HA5.out];rfl);have xt1:=HKj.out.cell HXT.out (o:=1) (c:=.int .i64 0) (by rw[zd HA5.out];rfl);have HAV:Hid (∀g,Av g->g≠w.heap.size+1):=zH fun g hg=>by have:=HS.out.avlt g hg;omega
      have HBS:Hid (base<=w.heap.size+1):=zH (by have:=HS.out.hb;have:=HS.out.blt;omega);have HD:=zH (Qm HSj.out (HKx.out.trans (HKj.out.narrow HOA.out)) HOA.out HXR.out HAV.out HBS.out (.string ⟨#[]⟩) (.int .i64 (A:Int)) (.int .i64 0) (.int .i64 0));have HFU:Hid ((U.take u).foldl (putS A k text key) st.up1=U.foldl (putS A k text key) st.up1):=zH (by rw[List.take_of_length_le (by rw[HUL.out];exact Nat.le_refl _)]);obtain⟨tc0,tc1,tc2,tc3⟩:=yg r5 (.string ⟨#[]⟩) (.int .i64 (A:Int)) (.int .i64 0) (.int .i64 0);clear r5;go_wp2_with fail
      refine bodyPost_ret (v:=.tuple #[.agg #[.string ⟨#[]⟩,.int .i64 (A:Int),.int .i64 0,.int .i64 0],.int .i64 0]) (by simp[results,Tryz.results93,go_sem,tc0,tc1,tc2,tc3];try rfl) rfl ?_;have hF:ZZ n k wr0 st key text=(U.foldl (putS A k text key) st.up1,⟨ByteArray.empty,A,0⟩,0):=by
       unfold ZZ;rw[if_neg (by rw[HE0.out];simp),HA.out,HU.out]
      rw[hF,<-HFU.out];exact⟨rfl,HD.out⟩
def Kb(base:Nat)(Av:Nat->Prop)(n k wr r b nb:Nat)(R:St×Nat)(w:World)(e:Ending)(w':World):Prop:=
 e=.returned (.int .i64 (R.2:Nat))/\(∃V',Shf w' base Av n k wr r b nb V' R.1)/\Kept Av base w w'
theorem Kc(a:Nat)(h:a<256):bits .xor .u8 (a:Int) 1=((a ^^^ 1:Nat):Int)/\a ^^^ 1<256:=by
 have:∀a:Fin 256,bits .xor .u8 (a.val:Int) 1=((a.val ^^^ 1:Nat):Int)/\a.val ^^^ 1<256:=by decide+kernel
 exact this ⟨a,h⟩
theorem zaw{L:List Kp}(h:L.length≠0):zw (j9 L)=(zw L).set ((L.length-1)*3+2) (.string (vU (L.getLastD (0,ByteArray.empty)).2)):=by
 have e:=Q4 h;have hd:L.dropLast.length=L.length-1:=by simp
 obtain⟨D,hD⟩:∃D,L.dropLast=D:=⟨_,rfl⟩
 obtain⟨x,hx⟩:∃x,L.getLastD (0,ByteArray.empty)=x:=⟨_,rfl⟩
 rw[hD]at e hd;rw[hx]at e;unfold j9;rw[hD,hx,<-hd,<-e];simp only[kB];rw[List.set_append_right _ _ (by rw[ZI];omega),ZI];have:D.length*3+2-D.length*3=2:=by omega
 rw[this];rfl
theorem zek{L:List Kp}(h:L.length≠0):L[L.length-1]'(by omega)=L.getLastD (0,ByteArray.empty):=by
 have hne:L≠[]:=by intro e;rw[e]at h;exact h rfl
 rw[List.getLastD_eq_getLast?,List.getLast?_eq_some_getLast hne,List.getLast_eq_getElem];rfl
theorem zbL{w:World}{base:Nat}{Av:Nat->Prop}{n k wr r b nb:Nat}{V:Nat->Nat->Value}{st:St}(kind:Int)(key m:Nat)(text:ByteArray)(hkey:key<3)(hm:m<n)(hn:n<=10)(h:Shf w base Av n k wr r b nb V st):
 Calls Tryz.prog 134 #[.pointer (some ⟨b,0,none⟩),deedV kind (key:Int) (m:Int) text] w (Kb base Av n k wr r b nb (YY st key m) w):=by
 obtain⟨W1,hW1⟩:∃W1,w.alloc (.cells #[.int .i64 kind,.int .i64 (key:Int),.int .i64 (m:Int),.string text] 66)=W1:=⟨_,rfl⟩
 have hb1:Below w.heap.size w W1:=by rw[<-hW1];exact zc _ _
 have hd1:W1.heap[w.heap.size]?=some (.cells #[.int .i64 kind,.int .i64 (key:Int),.int .i64 (m:Int),.string text] 66 (0,0)):=by rw[<-hW1];exact heap_alloc_new w _
 have d1:=zd hd1 1;have d2:=zd hd1 2;simp only[List.getElem?_toArray,List.getElem?_cons_zero,List.getElem?_cons_succ]at d1 d2;have hS:=h.below hb1;have x4:=hS.cells.2.2.2.2.1;obtain⟨ak,ck,hvk,hRk,hnk⟩:=hS.reads hm hkey;have xk:=hS.kpc hm hkey;rw[hvk]at xk;have hlk6:=h.ok.len m key;have HS:=zH hS;have HK1:=zH (h.kept hb1);have HF:Hid (YY st key m=if(st.kp m key).length=0 then(st,4) else(st.set m key (j9 (st.kp m key)),0)):=zH rfl;have HOKR:=zH (h.ok.rot m key);have HRNG:=zH (h.ok.rng m key);obtain⟨L,hL⟩:∃L,st.kp m key=L:=⟨_,rfl⟩
 rw[hL]at hvk hRk hnk xk hlk6 HF HOKR HRNG;obtain⟨lk,hlk⟩:∃lk,L.length=lk:=⟨_,rfl⟩
 rw[hlk]at hvk hnk xk hlk6 HF;have HL:=zH hL;have HVK:=zH hvk;have HRK:=zH hRk;have m0:(0:Int)<=(m:Int):=by omega
 have m1:(m:Int)<(n:Int):=by omega
 have y0:(0:Int)<=(key:Int):=by omega
 have y1:(key:Int)<3:=by omega
 by_cases hz:lk=0
 . have t0:((lk:Int)==0)=true:=by simp;omega
   have HFZ:Hid (YY st key m=(st,4)):=zH (by rw[HF.out,if_pos hz]);clear h hS hb1 hd1 hL hvk hRk hnk hlk hz HF;go_enter Tryz.func134,Tryz.ntmps134
   go_wp2_with fail
   clear hW1
   go_quiet (fail)
   go_wp2_with fail
   go_ret
   rw[HFZ.out];exact⟨rfl,⟨V,HS.out.below (yc _ _ _)⟩,HK1.out.trans ⟨yc _ _ _,fun _ _=>rfl⟩⟩
 . have t0:((lk:Int)==0)=false:=by simp;omega
   have HFZ:Hid (YY st key m=(st.set m key (j9 L),0)):=zH (by rw[HF.out,if_neg hz]);have hla:=zek (L:=L) (by rw[hlk];exact hz);obtain⟨bk,ok,hrk,z0,z1,z2⟩:=y9 hRk (k:=lk-1) (by omega);obtain⟨x,hx⟩:∃x,L.getLastD (0,ByteArray.empty)=x:=⟨_,rfl⟩
   have hla2:L[lk-1]'(by omega)=x:=by rw[<-hx,<-hla];congr 1;omega
   rw[hla2]at z0 z2;have hxr:=HRNG.out x (by rw[<-hla2];exact List.getElem_mem _);have hrow:=HS.out.row m key hm hkey;rw[HL.out,hvk,hrk]at hrow;have ho:ok=0:=by
    rcases hrow.2 with⟨hv,_⟩|⟨g',c',cur,hv,_⟩
    . cases hv
    . cases hv;rfl
   subst ho;subst hrk;obtain⟨lq,rfl⟩:∃lq,lk=lq+1:=⟨lk-1,by omega⟩
   rw[show lq+1-1=lq by omega]at z0 z1 z2;obtain⟨q,s⟩:=x;have hs5:5<=s.size/\s.size<=65:=hxr.2.2;have hlen:=zdu (l:=L) (by rw[hlk];exact hz);have hcells:=zaw (L:=L) (by rw[hlk];exact hz);rw[hx,hlk,show lq+1-1=lq by omega]at hcells;have BS:=run_bytes_of_string (P:=Tryz.prog) W1.drew 9 113 5 s Tryz.underlying9 Tryz.underlying113 Tryz.underlying5;obtain⟨gc,hgc⟩:∃gc,grownCap W1.drew s.size 0 5=gc:=⟨_,rfl⟩
   rw[hgc]at BS;obtain⟨gb,hgb⟩:∃gb,W1.drew.heap.size=gb:=⟨_,rfl⟩
   have RC:RowC (W1.drew.drew.alloc (.cells (bytesRow s gc) 5 ((bytesRow s gc).size,(bytesRow s gc).size+1))) gb s.size (fun j=>.int .u8 (zJ s j:Nat)):=by rw[<-hgb];exact kL W1.drew.drew s gc
   have B7:Below W1.heap.size W1 (W1.drew.drew.alloc (.cells (bytesRow s gc) 5 ((bytesRow s gc).size,(bytesRow s gc).size+1))):=(zb (yc _ _ 1)).alloc (Nat.le_refl _) _;obtain⟨W7,hW7⟩:∃W7,W1.drew.drew.alloc (.cells (bytesRow s gc) 5 ((bytesRow s gc).size,(bytesRow s gc).size+1))=W7:=⟨_,rfl⟩
   rw[hW7]at BS RC B7;rw[hgb]at BS;obtain⟨c,hc⟩:∃c,zJ s 0=c:=⟨_,rfl⟩
   have hcl:c<256:=by rw[<-hc];exact yH _ _
   have hrc0:=RC 0 (by omega);dsimp only at hrc0;rw[hc]at hrc0;obtain⟨rc0,rf0⟩:=hrc0;obtain⟨fx,fl⟩:=Kc c hcl;obtain⟨f,hf⟩:∃f,c ^^^ 1=f:=⟨_,rfl⟩
   rw[hf]at fx fl;have RC8:=RC.store (i:=0) (by omega) (.int .u8 (f:Int));have B8:Below W1.heap.size W1 (W7.setCell ⟨gb,0,none⟩ (.int .u8 (f:Int))):=zk B7 (by rw[<-hgb];exact Nat.le_refl _) _;obtain⟨W8,hW8⟩:∃W8,W7.setCell ⟨gb,0,none⟩ (.int .u8 (f:Int))=W8:=⟨_,rfl⟩
   rw[hW8]at RC8 B8;have KB:=pt s.size (fun j=>if j=0 then f else zJ s j) (some ⟨gb,0,none⟩) gc W8 (by intro k _;split;exact fl;exact yH _ _) (fun h=>by cases h) (by
    have h1:=RC8.reads;have e:zX s.size (fun j=>if j=0 then Value.int .u8 (f:Int) else .int .u8 (zJ s j:Nat))=zX s.size (fun k=>.int .u8 ((if k=0 then f else zJ s k:Nat):Int)):=kT fun j _=>by
     by_cases hj0:j=0
     . rw[if_pos hj0,if_pos hj0]
     . rw[if_neg hj0,if_neg hj0]
    rw[e]at h1;exact h1)
   have hfs:zE s.size (fun j=>if j=0 then f else zJ s j)=vU s:=by unfold vU;rw[hc,hf]
   rw[hfs]at KB;have hS8:=HS.out.below B8;have hrow8:=zi hrow B8;rw[hlk]at hrow8;have hst:=World.ownsRow.stored hrow8 (lq*3+2) (.string (vU s));have hpk:=hS8.poke (l:=j9 L) hm hkey (w1:=W8.setCell ⟨bk,lq*3+2,none⟩ (.string (vU s))) (by rw[hvk];exact hst.2) (by rw[hvk,hlen,hlk,hcells];exact hst.1) (by have h1:=HOKR.out (by rw[hlk];exact hz);exact h1);have HPK:=zH (And.intro hpk.1 (HK1.out.trans ((HS.out.kept B8).trans hpk.2)));have z8:=(B8.cell (p:=⟨bk,0+lq*3+2,none⟩) (World.block_lt_of_cell? _ _ z2)).trans z2;rw[Nat.zero_add]at z8;have fz8:W8.frozen? ⟨bk,lq*3+2,none⟩=false:=World.ownsRow.frozenAt hrow8 _;obtain⟨FS,hFS⟩:∃FS,vU s=FS:=⟨_,rfl⟩
   rw[hFS]at KB HPK;have xk':W1.drew.cell? ⟨nb,m*4+1+key,none⟩=some (.slice (some ⟨bk,0,none⟩) (lq+1) ck):=xk;rw[Nat.zero_add]at z0 z1 z2;have s0:(0:Int)<(s.size:Int):=by omega
   have s0':0<s.size:=by omega
   have HX1:=zH hW1;clear h hS hb1 hd1 hL hvk hRk hnk hlk hz HF hla hla2 hx hxr hrow hlen hcells hgc hgb hc hcl RC B7 hW7 hf RC8 B8 hfs hS8 hrow8 hst hpk hFS HRNG HOKR;go_enter Tryz.func134,Tryz.ntmps134
   go_wp2_with fail
   clear hW1
   go_region_held (fun w'=>w'.cell? ⟨b,4,none⟩=some (.slice (some ⟨nb,0,none⟩) n n)/\w'.cell? ⟨w.heap.size,1,none⟩=some (.int .i64 (key:Int))/\w'.cell? ⟨w.heap.size,2,none⟩=some (.int .i64 (m:Int))/\w'.cell? ⟨nb,m*4+1+key,none⟩=some (.slice (some ⟨bk,0,none⟩) (lq+1) ck)) (go_keep) (fail)
   all_goals
    go_wp2_with fail
    go_ret
    rw[HFZ.out];exact⟨rfl,⟨V,HPK.out.1⟩,HPK.out.2⟩
theorem zcT{w:World}{base:Nat}{Av:Nat->Prop}{n k wr r b nb:Nat}{V:Nat->Nat->Value}{st:St}(kind:Int)(hkind:kind=4\/kind=5\/kind=6\/kind=7)(key m:Int)(text:ByteArray)(hkey:kind=7->0<=key/\key<3)(hn:n<=10)(h:Shf w base Av n k wr r b nb V st):
 Calls Tryz.prog 96 #[.pointer (some ⟨b,0,none⟩),deedV kind key m text] w (Kb base Av n k wr r b nb (atF n st kind key.toNat m) w):=by
 obtain⟨W1,hW1⟩:∃W1,w.alloc (.cells #[.int .i64 kind,.int .i64 key,.int .i64 m,.string text] 66)=W1:=⟨_,rfl⟩
 have hb1:Below w.heap.size w W1:=by rw[<-hW1];exact zc _ _
 have hd1:W1.heap[w.heap.size]?=some (.cells #[.int .i64 kind,.int .i64 key,.int .i64 m,.string text] 66 (0,0)):=by rw[<-hW1];exact heap_alloc_new w _
 obtain⟨d0,d1,d2,d3⟩:=zc4 hd1;have hS:=h.below hb1;have x4:=hS.cells.2.2.2.2.1;have CI:=zH (KP m x4);unfold jv at CI;have HS:=zH hS;have HK1:=zH (h.kept hb1);clear h hS hb1 hd1;by_cases g:m<0\/(n:Int)<=m
 . have hF:Hid (atF n st kind key.toNat m=(st,1)):=zH (by unfold atF;rw[if_pos g]);have hI:(decide (0<=m)&&decide (m<(n:Int)))=false:=by simp;omega
   rw[hI]at CI;clear g hI hkind hkey;go_enter Tryz.func96,Tryz.ntmps96
   go_wp2_with fail
   (with_reducible refine CI.out.mono ?_)
   rintro e w2 ⟨rfl,rfl⟩;go_wp2_with fail
   go_ret
   rw[hF.out];exact⟨rfl,⟨V,HS.out⟩,HK1.out⟩
 obtain⟨i,rfl⟩:∃i:Nat,m=i:=⟨m.toNat,by omega⟩
 have hin:i<n:=by omega
 have hI:(decide (0<=(i:Int))&&decide ((i:Int)<(n:Int)))=true:=by simp;omega
 rw[hI]at CI;have HF:Hid (atF n st kind key.toNat i=if kind=4 then(st.down i true,0) else if kind=5 then(st.down i false,0) else if kind=6 then(st.lose i,0) else if kind=7 then YY st key.toNat i else(st,0)):=zH (by
  unfold atF;rw[if_neg g];rfl)
 have m0:(0:Int)<=(i:Int):=by omega
 have m1:(i:Int)<(n:Int):=by omega
 have xdn:=HS.out.dnc hin;have fdn:=HS.out.nodes.frozen (i*4);have xk0:=HS.out.kpc hin (show 0<3 by omega);have xk1:=HS.out.kpc hin (show 1<3 by omega);have xk2:=HS.out.kpc hin (show 2<3 by omega);have fk0:=HS.out.nodes.frozen (i*4+1);have fk1:=HS.out.nodes.frozen (i*4+1+1);have fk2:=HS.out.nodes.frozen (i*4+1+2);have fk1':=HS.out.nodes.frozen (i*4+2);have fk2':=HS.out.nodes.frozen (i*4+3);have xk1':W1.cell? ⟨nb,i*4+2,none⟩=some (V i 1):=xk1;have xk2':W1.cell? ⟨nb,i*4+3,none⟩=some (V i 2):=xk2;rw[Nat.add_zero]at xk0;have HWR:∀q,Shf (W1.drewN q) base Av n k wr r b nb V st/\Kept Av base w (W1.drewN q):=fun q=>⟨HS.out.below (yc _ _ q),HK1.out.trans ⟨yc _ _ q,fun _ _=>rfl⟩⟩
 have HWQ:=zH HWR;clear g hI HWR;rcases hkind with rfl|rfl|rfl|rfl
 . have hF:Hid (atF n st 4 key.toNat i=(st.down i true,0)):=zH (by rw[HF.out,if_pos rfl]);clear HF hkey;go_enter Tryz.func96,Tryz.ntmps96
   go_wp2_with fail
   (with_reducible refine CI.out.mono ?_)
   clear hW1;rintro e w2 ⟨rfl,rfl⟩;go_wp2_with fail
   go_quiet (fail)
   go_wp2_with fail
   go_ret
   rw[hF.out];exact⟨rfl,⟨V,((HWQ.out _).1.put_dn hin true).1⟩,(HWQ.out _).2.trans ((HWQ.out _).1.put_dn hin true).2⟩
 . have hF:Hid (atF n st 5 key.toNat i=(st.down i false,0)):=zH (by rw[HF.out];rfl);clear HF hkey;go_enter Tryz.func96,Tryz.ntmps96
   go_wp2_with fail
   (with_reducible refine CI.out.mono ?_)
   clear hW1;rintro e w2 ⟨rfl,rfl⟩;go_wp2_with fail
   go_quiet (fail)
   go_wp2_with fail
   go_ret
   rw[hF.out];exact⟨rfl,⟨V,((HWQ.out _).1.put_dn hin false).1⟩,(HWQ.out _).2.trans ((HWQ.out _).1.put_dn hin false).2⟩
 . have hF:Hid (atF n st 6 key.toNat i=(st.lose i,0)):=zH (by rw[HF.out];rfl);clear HF hkey;go_enter Tryz.func96,Tryz.ntmps96
   go_wp2_with fail
   (with_reducible refine CI.out.mono ?_)
   clear hW1;rintro e w2 ⟨rfl,rfl⟩;go_wp2_with fail
   go_quiet (fail)
   go_wp2_with fail
   go_ret
   rw[hF.out];exact⟨rfl,((HWQ.out _).1.put_lose hin).1,(HWQ.out _).2.trans ((HWQ.out _).1.put_lose hin).2⟩
 . have hF:Hid (atF n st 7 key.toNat i=YY st key.toNat i):=zH (by rw[HF.out];rfl);obtain⟨kk,rfl⟩:∃kk:Nat,key=kk:=⟨key.toNat,by have:=hkey rfl;omega⟩
   have CR:=zH (fun q=>zbL (w:=W1.drewN q) 7 kk i text (by have:=hkey rfl;omega) hin hn (HWQ.out q).1);unfold Kb at CR;clear HF hkey;go_enter Tryz.func96,Tryz.ntmps96
   go_wp2_with fail
   (with_reducible refine CI.out.mono ?_)
   clear hW1;rintro e w2 ⟨rfl,rfl⟩;go_wp2_with fail
   go_quiet (fail)
   go_wp2_with fail
   (with_reducible refine(CR.out _).mono ?_)
   rintro e w3 ⟨rfl,hS3,hK3⟩;have HQ:=zH (And.intro hS3 ((HWQ.out _).2.trans hK3));clear hS3 hK3;go_wp2_with fail
   go_ret
   rw[hF.out];exact⟨rfl,HQ.out.1,HQ.out.2⟩
structure DoAt (w W1:World) (base:Nat) (Av:Nat->Prop) (n k wr r b nb:Nat) (V:Nat->Nat->Value) (st:St) (kind key m:Int) (text:ByteArray):Prop where
 eqn:(w.alloc (.cells #[.int .i64 kind,.int .i64 key,.int .i64 m,.string text] 66)).alloc (.cells #[.string ⟨#[]⟩,.int .i64 0,.int .i64 0,.int .i64 0] 70)=W1
 bel:Below w.heap.size w W1
 d:W1.heap[w.heap.size]?=some (.cells #[.int .i64 kind,.int .i64 key,.int .i64 m,.string text] 66 (0,0))
 t:W1.heap[w.heap.size+1]?=some (.cells #[.string ⟨#[]⟩,.int .i64 0,.int .i64 0,.int .i64 0] 70 (0,0))
 s:Shf W1 base (WideA Av w.heap.size W1.heap.size) n k wr r b nb V st
 kp:Kept Av base w W1
 ra:WideA Av w.heap.size W1.heap.size (w.heap.size+1)
 rn:∀g,Av g->g≠w.heap.size+1
 rb:base<=w.heap.size+1
theorem VX{w:World}{base:Nat}{Av:Nat->Prop}{n k wr r b nb:Nat}{V:Nat->Nat->Value}{st:St}(h:Shf w base Av n k wr r b nb V st)(kind key m:Int)(text:ByteArray):∃W1,DoAt w W1 base Av n k wr r b nb V st kind key m text:=by
 have hb01:Below w.heap.size w (w.alloc (.cells #[.int .i64 kind,.int .i64 key,.int .i64 m,.string text] 66)):=zc _ _;have hb:Below w.heap.size w ((w.alloc (.cells #[.int .i64 kind,.int .i64 key,.int .i64 m,.string text] 66)).alloc (.cells #[.string ⟨#[]⟩,.int .i64 0,.int .i64 0,.int .i64 0] 70)):=hb01.alloc (by simp) _;refine⟨_,rfl,hb,za _ _ (heap_alloc_new w _),zl _ _ _ (by simp),h.wide hb,h.kept hb,WideA.new (by omega) (by simp),fun g hg=>by have:=h.avlt g hg;omega,by have:=h.hb;have:=h.blt;omega⟩
theorem DoAt.done{w W1 w2:World}{base:Nat}{Av:Nat->Prop}{n k wr r b nb:Nat}{V V2:Nat->Nat->Value}{st st2:St}{kind key m:Int}{text:ByteArray}(h:DoAt w W1 base Av n k wr r b nb V st kind key m text)
 (hS:Shf w2 base (WideA Av w.heap.size W1.heap.size) n k wr r b nb V2 st2)(hK:Kept (WideA Av w.heap.size W1.heap.size) base W1 w2)(x0 x1 x2 x3:Value):
 ((∃V',Shf ((((w2.setCell ⟨w.heap.size+1,0,none⟩ x0).setCell ⟨w.heap.size+1,1,none⟩ x1).setCell ⟨w.heap.size+1,2,none⟩ x2).setCell ⟨w.heap.size+1,3,none⟩ x3) base Av n k wr r b nb V' st2)/\Kept Av base w ((((w2.setCell ⟨w.heap.size+1,0,none⟩ x0).setCell ⟨w.heap.size+1,1,none⟩ x1).setCell ⟨w.heap.size+1,2,none⟩ x2).setCell ⟨w.heap.size+1,3,none⟩ x3))/\
 w2.heap[w.heap.size+1]?=some (.cells #[.string ⟨#[]⟩,.int .i64 0,.int .i64 0,.int .i64 0] 70 (0,0)):=
 ⟨Qm hS (h.kp.trans (hK.narrow fun x hx=>WideA.old hx)) (fun x hx=>WideA.old hx) h.ra h.rn h.rb x0 x1 x2 x3,(hK.blk _ h.ra).trans h.t⟩
theorem KR{w:World}{base:Nat}{Av:Nat->Prop}{n k wr0 r b nb:Nat}{V:Nat->Nat->Value}{st:St}(key:Nat)(m:Int)(text:ByteArray)(hkey:key<3)(ht:text.size<=9223372036854775807)(hk1:1<=k)(hkn:k<=n)(hn:n<=10)(h:Shf w base Av n k wr0 r b nb V st):
 Calls Tryz.prog 59 #[.pointer (some ⟨b,0,none⟩),deedV 1 (key:Int) m text] w (kJ base Av n k wr0 r b nb (ZZ n k wr0 st key text) w):=by
 obtain⟨W1,hd⟩:=VX h 1 (key:Int) m text;have HD:=zH hd;have hW1:=hd.eqn;obtain⟨d0,d1,d2,d3⟩:=zc4 hd.d;have CK:=zH (fun W=>vp (key:Int) W);unfold jv at CK;rw[show(decide (0<=(key:Int))&&decide ((key:Int)<3))=true by simp;omega]at CK;have CP:=zH (zcK 1 key m text hkey ht hk1 hkn hn hd.s);unfold kJ at CP;obtain⟨R,hR⟩:∃R,ZZ n k wr0 st key text=R:=⟨_,rfl⟩
 rw[hR]at CP ⊢;obtain⟨st2,⟨tx,ta,tm⟩,E⟩:=R;dsimp only at CP;clear hR hd h;go_enter Tryz.func59,Tryz.ntmps59
 go_wp2_with (go_at_call 92;(with_reducible refine(CK.out _).mono ?_);rintro e w2 ⟨rfl,rfl⟩)
 (with_reducible refine CP.out.mono ?_)
 clear hW1;rintro e w2 ⟨rfl,⟨V2,hS2⟩,hK2⟩;have hdn:=HD.out.done hS2 hK2 (.string tx) (.int .i64 (ta:Int)) (.int .i64 0) (.int .i64 (tm:Int));obtain⟨r0,r1,r2',r3⟩:=zc4 hdn.2;obtain⟨f0,f1,f2,f3⟩:=zf4 hdn.2;obtain⟨tc0,tc1,tc2,tc3⟩:=yg hdn.2 (.string tx) (.int .i64 (ta:Int)) (.int .i64 0) (.int .i64 (tm:Int));have HN:=zH hdn.1;clear hS2 hK2 hdn;go_wp2_with fail
 refine bodyPost_ret (v:=.tuple #[.agg #[.string tx,.int .i64 (ta:Int),.int .i64 0,.int .i64 (tm:Int)],.int .i64 (E:Nat)]) (by simp[results,Tryz.results59,go_sem,tc0,tc1,tc2,tc3];try rfl) rfl ?_;exact⟨rfl,HN.out⟩
end Go.Proofs.YtmgfbmkfomebcaaGreatDoor
