/- The reference's writeOf at a torn write. (Printed by wip/tools/gen_ref4.py.) -/
import Derived.Test.YtmgfbmkfomebcaaGreatDoorDkM24
import Derived.Deep.Cut
set_option linter.unusedVariables false
set_option linter.unusedSimpArgs false
set_option maxRecDepth 100000
set_option maxHeartbeats 16000000
namespace Go.Proofs.YtmgfbmkfomebcaaGreatDoor
open Go.RowKit
theorem zbd{n D k wr0 r:Nat}{All:List It}{st:St}(kind:Int)(hk12:kind=2)(key:Nat)(m:Int)(text:ByteArray)(hkey:key<3)(ht:text.size<=9223372036854775807)(hk1:1<=k)(hkn:k<=n)(hn:n<=10)(h:Shl n D All st)(ao:Option Addr)(ca:Nat)(w:World)(hR:Reads w ao (ze All))(hnone:ao=none->All.length=0/\ca=0):
 Calls Tryz.prog 47 #[.agg (shC n k wr0 r D st.wr (.slice ao All.length ca)),deedV kind (key:Int) m text] w (yo n k wr0 r ao (wrF n k wr0 st kind key m text) w):=by
 have HK12:=zH hk12;clear hk12;obtain⟨la,hla⟩:∃la,All.length=la:=⟨_,rfl⟩
 obtain⟨mw,hmw⟩:∃mw,st.wr=mw:=⟨_,rfl⟩
 rw[hla,hmw];have hl3:la<=30000000:=by rw[<-hla];exact h.len hn
 have hm6:mw<=1000000:=by rw[<-hmw];exact h.ok.w6
 obtain⟨W1,hW1⟩:∃W1,(((w.alloc (.cells (shC n k wr0 r D mw (.slice ao la ca)) 41)).alloc (.cells #[.int .i64 kind,.int .i64 (key:Int),.int .i64 m,.string text] 66)).alloc (.cells #[.int .i64 0,.int .i64 0,.int .i64 0,.int .i64 0,.int .u16 0,.int .i64 0,.slice none 0 0] 41)).alloc (.cells #[.string ⟨#[]⟩,.int .i64 0,.int .i64 0,.int .i64 0] 70)=W1:=⟨_,rfl⟩
 have hb0:=zc w (.cells (shC n k wr0 r D mw (.slice ao la ca)) 41);have hb1:Below w.heap.size w W1:=by rw[<-hW1];exact((hb0.alloc (by simp) _).alloc (by simp;omega) _).alloc (by simp;omega) _
 have hx1:W1.heap[w.heap.size]?=some (.cells (shC n k wr0 r D mw (.slice ao la ca)) 41 (0,0)):=by rw[<-hW1];exact za _ _ (za _ _ (za _ _ (heap_alloc_new w _)))
 have hd1:W1.heap[w.heap.size+1]?=some (.cells #[.int .i64 kind,.int .i64 (key:Int),.int .i64 m,.string text] 66 (0,0)):=by rw[<-hW1];exact za _ _ (za _ _ (zl _ _ _ (by simp)))
 have hz1:W1.heap[w.heap.size+2]?=some (.cells #[.int .i64 0,.int .i64 0,.int .i64 0,.int .i64 0,.int .u16 0,.int .i64 0,.slice none 0 0] 41 (0,0)):=by rw[<-hW1];exact za _ _ (zl _ _ _ (by simp))
 have ht1:W1.heap[w.heap.size+3]?=some (.cells #[.string ⟨#[]⟩,.int .i64 0,.int .i64 0,.int .i64 0] 70 (0,0)):=by rw[<-hW1];exact zl _ _ _ (by simp)
 have hs1:W1.heap.size=w.heap.size+4:=by rw[<-hW1];simp
 obtain⟨x0,x1,x2,x3,x4,x5,x6⟩:=zc7 hx1;have CU:=zH (Kg k wr0 r mw (.slice ao la ca) W1 hn ⟨_,_,_,rfl⟩ h);unfold kr at CU;have HUM:Hid (∀i,i∈ups n st->i<n):=zH fun i hi=>(vP.1 hi).1
 have HND:Hid (ups n st).Nodup:=zH (vS _ _);have hul:=kz n st;have HSPL:Hid (qM n wr0 st text=if 60<text.size then 2 else if(ups n st).length<wr0 then 9 else if mw=1000000 then 11 else 0):=zH (by unfold qM;rw[hmw]);obtain⟨U,hU⟩:∃U,ups n st=U:=⟨_,rfl⟩
 rw[hU]at CU HUM hul HND HSPL;obtain⟨u,hu⟩:∃u,U.length=u:=⟨_,rfl⟩
 rw[hu]at CU hul HSPL;have HU:=zH hU;have HUL:=zH hu;have HB1:=zH hb1;have HX1:=zH hx1;have HD1:=zH hd1;have HZ1:=zH hz1;have HT1:=zH ht1;have HS1:=zH hs1;have HLA:=zH hla;have HMW:=zH hmw;have HR:=zH hR;have HNO:=zH hnone;have HSH:=zH h;clear h hb0 hb1 hx1 hd1 hz1 ht1 hs1 hU hu hla hmw hR hnone;go_enter Tryz.func47,Tryz.ntmps47
 go_wp2_with fail
 (with_reducible refine CU.out.mono ?_)
 clear hW1 x0 x1 x2 x3 x4 x5 x6;rintro e w2 ⟨ao2,cap2,rfl,hown2,hb2⟩;have HB12:=zH hb2;have HB2:Hid (Below w.heap.size w w2):=zH (HB1.out.trans (hb2.mono HB1.out.size));have HX2:=zH ((hb2.block w.heap.size (by rw[HS1.out];omega)).trans HX1.out);have HD2:=zH ((hb2.block (w.heap.size+1) (by rw[HS1.out];omega)).trans HD1.out);have HZ2:=zH ((hb2.block (w.heap.size+2) (by rw[HS1.out];omega)).trans HZ1.out);have HT2:=zH ((hb2.block (w.heap.size+3) (by rw[HS1.out];omega)).trans HT1.out);have HS2:Hid (w.heap.size+4<=w2.heap.size):=zH (by have:=hb2.size;have:=HS1.out;omega);have HOU:=zH hown2;clear hb2 hown2 CU;obtain⟨x0,x1,x2,x3,x4,x5,x6⟩:=zc7 HX2.out;obtain⟨d0,d1,d2,d3⟩:=zc4 HD2.out;obtain⟨b0,b1,b2,b3,b4,b5,b6⟩:=zc7 HZ2.out;obtain⟨c0,c1,c2,c3⟩:=zc4 HT2.out;obtain⟨fb0,fb1,fb2,fb3,fb4,fb5,fb6⟩:=zf7 HZ2.out;obtain⟨fc0,fc1,fc2,fc3⟩:=zf4 HT2.out;by_cases g1:60<text.size
 . have HF:Hid (wrF n k wr0 st kind key m text=(st,Tl.no,2)):=zH (by
    have e:qM n wr0 st text=2:=by rw[HSPL.out,if_pos g1]
    rw[pB (by rw[e];decide),e])
   have t1:decide ((60:Int)<(text.size:Int))=true:=by simp;omega
   have t1':decide (60<text.size)=true:=by simp;omega
   clear g1;obtain⟨qq1,qq2⟩:=zD (A:=w.heap.size+2) (B:=w.heap.size+3) (by omega) HZ2.out HT2.out (.int .i64 (n:Int)) (.int .i64 (k:Int)) (.int .i64 (wr0:Int)) (.int .i64 (r:Int)) (.int .u16 (D:Int)) (.int .i64 (mw:Int)) (.slice ao la ca) (.string ⟨#[]⟩) (.int .i64 0) (.int .i64 0) (.int .i64 0);obtain⟨y0,y1,y2,y3,y4,y5,y6⟩:=zc7 qq1;obtain⟨z0,z1,z2,z3⟩:=zc4 qq2;clear qq1 qq2;have HBZ:=zH (zn (zj HB2.out (show w.heap.size<=w.heap.size+2 by omega) (.int .i64 (n:Int)) (.int .i64 (k:Int)) (.int .i64 (wr0:Int)) (.int .i64 (r:Int)) (.int .u16 (D:Int)) (.int .i64 (mw:Int)) (.slice ao la ca)) (show w.heap.size<=w.heap.size+3 by omega) (.string ⟨#[]⟩) (.int .i64 0) (.int .i64 0) (.int .i64 0));go_wp2_with fail
   refine bodyPost_ret (v:=.tuple #[.agg (shC n k wr0 r D mw (.slice ao la ca)),.agg #[.string ⟨#[]⟩,.int .i64 0,.int .i64 0,.int .i64 0],.int .i64 2]) (by simp[results,Tryz.results47,go_sem,y0,y1,y2,y3,y4,y5,y6,z0,z1,z2,z3];try rfl) rfl ?_;rw[HF.out];exact⟨D,All,ao,ca,by rw[HLA.out,HMW.out];rfl,HSH.out,HR.out.below HBZ.out,HNO.out,.inl rfl,HBZ.out⟩
 have t1:decide ((60:Int)<(text.size:Int))=false:=by simp;omega
 have t1':decide (60<text.size)=false:=by simp;omega
 by_cases g2:u<wr0
 . have HF:Hid (wrF n k wr0 st kind key m text=(st,Tl.no,9)):=zH (by
    have e:qM n wr0 st text=9:=by rw[HSPL.out,if_neg g1,if_pos g2]
    rw[pB (by rw[e];decide),e])
   have t2:decide ((u:Int)<(wr0:Int))=true:=by simp;omega
   have t2':decide (u<wr0)=true:=by simp;omega
   clear g1 g2;obtain⟨qq1,qq2⟩:=zD (A:=w.heap.size+2) (B:=w.heap.size+3) (by omega) HZ2.out HT2.out (.int .i64 (n:Int)) (.int .i64 (k:Int)) (.int .i64 (wr0:Int)) (.int .i64 (r:Int)) (.int .u16 (D:Int)) (.int .i64 (mw:Int)) (.slice ao la ca) (.string ⟨#[]⟩) (.int .i64 0) (.int .i64 0) (.int .i64 0);obtain⟨y0,y1,y2,y3,y4,y5,y6⟩:=zc7 qq1;obtain⟨z0,z1,z2,z3⟩:=zc4 qq2;clear qq1 qq2;have HBZ:=zH (zn (zj HB2.out (show w.heap.size<=w.heap.size+2 by omega) (.int .i64 (n:Int)) (.int .i64 (k:Int)) (.int .i64 (wr0:Int)) (.int .i64 (r:Int)) (.int .u16 (D:Int)) (.int .i64 (mw:Int)) (.slice ao la ca)) (show w.heap.size<=w.heap.size+3 by omega) (.string ⟨#[]⟩) (.int .i64 0) (.int .i64 0) (.int .i64 0));go_wp2_with fail
   refine bodyPost_ret (v:=.tuple #[.agg (shC n k wr0 r D mw (.slice ao la ca)),.agg #[.string ⟨#[]⟩,.int .i64 0,.int .i64 0,.int .i64 0],.int .i64 9]) (by simp[results,Tryz.results47,go_sem,y0,y1,y2,y3,y4,y5,y6,z0,z1,z2,z3];try rfl) rfl ?_;rw[HF.out];exact⟨D,All,ao,ca,by rw[HLA.out,HMW.out];rfl,HSH.out,HR.out.below HBZ.out,HNO.out,.inl rfl,HBZ.out⟩
 have t2:decide ((u:Int)<(wr0:Int))=false:=by simp;omega
 have t2':decide (u<wr0)=false:=by simp;omega
 by_cases g3:mw=1000000
 . have HF:Hid (wrF n k wr0 st kind key m text=(st,Tl.no,11)):=zH (by
    have e:qM n wr0 st text=11:=by rw[HSPL.out,if_neg g1,if_neg g2,if_pos g3]
    rw[pB (by rw[e];decide),e])
   have t3:((mw:Int)==1000000)=true:=by simp;omega
   clear g1 g2 g3;obtain⟨qq1,qq2⟩:=zD (A:=w.heap.size+2) (B:=w.heap.size+3) (by omega) HZ2.out HT2.out (.int .i64 (n:Int)) (.int .i64 (k:Int)) (.int .i64 (wr0:Int)) (.int .i64 (r:Int)) (.int .u16 (D:Int)) (.int .i64 (mw:Int)) (.slice ao la ca) (.string ⟨#[]⟩) (.int .i64 0) (.int .i64 0) (.int .i64 0);obtain⟨y0,y1,y2,y3,y4,y5,y6⟩:=zc7 qq1;obtain⟨z0,z1,z2,z3⟩:=zc4 qq2;clear qq1 qq2;have HBZ:=zH (zn (zj HB2.out (show w.heap.size<=w.heap.size+2 by omega) (.int .i64 (n:Int)) (.int .i64 (k:Int)) (.int .i64 (wr0:Int)) (.int .i64 (r:Int)) (.int .u16 (D:Int)) (.int .i64 (mw:Int)) (.slice ao la ca)) (show w.heap.size<=w.heap.size+3 by omega) (.string ⟨#[]⟩) (.int .i64 0) (.int .i64 0) (.int .i64 0));go_wp2_with fail
   refine bodyPost_ret (v:=.tuple #[.agg (shC n k wr0 r D mw (.slice ao la ca)),.agg #[.string ⟨#[]⟩,.int .i64 0,.int .i64 0,.int .i64 0],.int .i64 11]) (by simp[results,Tryz.results47,go_sem,y0,y1,y2,y3,y4,y5,y6,z0,z1,z2,z3];try rfl) rfl ?_;rw[HF.out];exact⟨D,All,ao,ca,by rw[HLA.out,HMW.out];rfl,HSH.out,HR.out.below HBZ.out,HNO.out,.inl rfl,HBZ.out⟩
 have t3:((mw:Int)==1000000)=false:=by simp;omega
 have HE0:Hid (qM n wr0 st text=0):=zH (by rw[HSPL.out,if_neg g1,if_neg g2,if_neg g3]);have HT60:Hid (text.size<=60):=zH (by omega);have HMN:Hid (st.wr≠1000000):=zH (by rw[HMW.out];exact g3);have CS:=zH (fun W=>jf text k n W HT60.out hk1 hkn hn);unfold kg at CS;obtain⟨A,hA⟩:∃A,mw+1=A:=⟨_,rfl⟩
 have wadd:((mw:Nat):Int)+1=(A:Int):=by omega
 have hA6:A<=1000000:=by omega
 have HA:=zH hA;clear g1 g2 g3 hA HSPL;go_wp2_with fail
 (with_reducible refine(CS.out _).mono ?_)
 rintro e w3 ⟨ap,cp,rfl,hRp,hb3⟩;have HRP:Hid (Reads w3 ap (zX n fun j=>.string (pcs text k j))):=zH hRp;have HB23:=zH hb3;clear hRp hb3 CS;have HB24:Hid (Below w2.heap.size w2 (w3.alloc (.cells #[.int .i64 (A:Int),.int .i64 0] 68))):=zH (HB23.out.alloc HB23.out.size _);obtain⟨W4,hW4⟩:∃W4,w3.alloc (.cells #[.int .i64 (A:Int),.int .i64 0] 68)=W4:=⟨_,rfl⟩
 rw[hW4]at HB24;have HAT4:Hid (W4.heap[w3.heap.size]?=some (.cells #[.int .i64 (A:Int),.int .i64 0] 68 (0,0))):=zH (by rw[<-hW4];exact heap_alloc_new _ _);have HX4:=zH ((HB24.out.block w.heap.size (by have:=HS2.out;omega)).trans HX2.out);have HD4:=zH ((HB24.out.block (w.heap.size+1) (by have:=HS2.out;omega)).trans HD2.out);have HZ4:=zH ((HB24.out.block (w.heap.size+2) (by have:=HS2.out;omega)).trans HZ2.out);have HT4:=zH ((HB24.out.block (w.heap.size+3) (by have:=HS2.out;omega)).trans HT2.out);have HS4:Hid (w.heap.size+4<=W4.heap.size/\w3.heap.size<W4.heap.size):=zH (by
  have h1:=HB24.out.size;have h2:=HS2.out;have h3:W4.heap.size=w3.heap.size+1:=by rw[<-hW4];simp
  omega)
 have HB4:Hid (Below w.heap.size w W4):=zH (HB2.out.trans (HB24.out.mono HB2.out.size));have HRP4:Hid (Reads W4 ap (zX n fun j=>.string (pcs text k j))):=zH (by rw[<-hW4];exact HRP.out.alloc _);have HRU4:Hid (Reads W4 ao2 (zZ U)):=zH ((zF HOU.out).below HB24.out);have HR4:Hid (Reads W4 ao (ze All)):=zH (HR.out.below HB4.out);have HW4:=zH hW4;clear hW4 x0 x1 x2 x3 x4 x5 x6 d0 d1 d2 d3 b0 b1 b2 b3 b4 b5 b6 c0 c1 c2 c3 fb0 fb1 fb2 fb3 fb4 fb5 fb6 fc0 fc1 fc2 fc3;have HX3:=zH ((HB23.out.block w.heap.size (by have:=HS2.out;omega)).trans HX2.out);have HD3:=zH ((HB23.out.block (w.heap.size+1) (by have:=HS2.out;omega)).trans HD2.out);have x5:=zd HX3.out 5;have x6:=zd HX3.out 6;have d0:=zd HD3.out 0;have d2:=zd HD3.out 2;simp only[List.getElem?_toArray,List.getElem?_cons_zero,List.getElem?_cons_succ]at x5 x6 d0 d2;have hba3:=zc w3 (.cells #[.int .i64 (A:Int),.int .i64 0] 68);have hlt3:w.heap.size+4<=w3.heap.size:=by have:=HB23.out.size;have:=HS2.out;omega
 have e6:=(hba3.cell (p:=⟨w.heap.size,6,none⟩) (show w.heap.size<w3.heap.size by omega)).trans x6;have e0:=(hba3.cell (p:=⟨w.heap.size+1,0,none⟩) (show w.heap.size+1<w3.heap.size by omega)).trans d0;have e2:=(hba3.cell (p:=⟨w.heap.size+1,2,none⟩) (show w.heap.size+1<w3.heap.size by omega)).trans d2;clear hba3;obtain rfl:=HK12.out
 . go_upto_region 10 with(fail)
   rw[HW4.out];clear e6 e0 e2 d0 d2 x5 x6;obtain⟨x0,x1,x2,x3,x4,x5,x6⟩:=zc7 HX4.out;obtain⟨d0,d1,d2,d3⟩:=zc4 HD4.out;obtain⟨b0,b1,b2,b3,b4,b5,b6⟩:=zc7 HZ4.out;obtain⟨c0,c1,c2,c3⟩:=zc4 HT4.out;obtain⟨fb0,fb1,fb2,fb3,fb4,fb5,fb6⟩:=zf7 HZ4.out;obtain⟨fc0,fc1,fc2,fc3⟩:=zf4 HT4.out
   try clear d3
   by_cases g0:m<0\/(u:Int)<m
   . have HF:Hid (wrF n k wr0 st 2 key m text=(st,Tl.no,1)):=zH (by
      unfold wrF;rw[if_pos rfl];unfold vT;rw[if_neg (fun h=>h HE0.out),HU.out,HUL.out,if_pos g0])
     by_cases g1:m<0
     . have t4:decide (m<0)=true:=decide_eq_true g1;clear g0 g1;obtain⟨qq1,qq2⟩:=zD (A:=w.heap.size+2) (B:=w.heap.size+3) (by omega) HZ4.out HT4.out (.int .i64 (n:Int)) (.int .i64 (k:Int)) (.int .i64 (wr0:Int)) (.int .i64 (r:Int)) (.int .u16 (D:Int)) (.int .i64 (mw:Int)) (.slice ao la ca) (.string ⟨#[]⟩) (.int .i64 0) (.int .i64 0) (.int .i64 0);obtain⟨y0,y1,y2,y3,y4,y5,y6⟩:=zc7 qq1;obtain⟨z0,z1,z2,z3⟩:=zc4 qq2;clear qq1 qq2;have HBZ:=zH (zn (zj HB4.out (show w.heap.size<=w.heap.size+2 by omega) (.int .i64 (n:Int)) (.int .i64 (k:Int)) (.int .i64 (wr0:Int)) (.int .i64 (r:Int)) (.int .u16 (D:Int)) (.int .i64 (mw:Int)) (.slice ao la ca)) (show w.heap.size<=w.heap.size+3 by omega) (.string ⟨#[]⟩) (.int .i64 0) (.int .i64 0) (.int .i64 0));go_wp2_with fail
       refine bodyPost_ret (v:=.tuple #[.agg (shC n k wr0 r D mw (.slice ao la ca)),.agg #[.string ⟨#[]⟩,.int .i64 0,.int .i64 0,.int .i64 0],.int .i64 1]) (by simp[results,Tryz.results47,go_sem,y0,y1,y2,y3,y4,y5,y6,z0,z1,z2,z3];try rfl) rfl ?_;rw[HF.out];exact⟨D,All,ao,ca,by rw[HLA.out,HMW.out];rfl,HSH.out,HR.out.below HBZ.out,HNO.out,.inl rfl,HBZ.out⟩
     . have t4:decide (m<0)=false:=decide_eq_false g1;have t5:decide ((u:Int)<m)=true:=decide_eq_true (by omega);clear g0 g1;obtain⟨qq1,qq2⟩:=zD (A:=w.heap.size+2) (B:=w.heap.size+3) (by omega) HZ4.out HT4.out (.int .i64 (n:Int)) (.int .i64 (k:Int)) (.int .i64 (wr0:Int)) (.int .i64 (r:Int)) (.int .u16 (D:Int)) (.int .i64 (mw:Int)) (.slice ao la ca) (.string ⟨#[]⟩) (.int .i64 0) (.int .i64 0) (.int .i64 0);obtain⟨y0,y1,y2,y3,y4,y5,y6⟩:=zc7 qq1;obtain⟨z0,z1,z2,z3⟩:=zc4 qq2;clear qq1 qq2;have HBZ:=zH (zn (zj HB4.out (show w.heap.size<=w.heap.size+2 by omega) (.int .i64 (n:Int)) (.int .i64 (k:Int)) (.int .i64 (wr0:Int)) (.int .i64 (r:Int)) (.int .u16 (D:Int)) (.int .i64 (mw:Int)) (.slice ao la ca)) (show w.heap.size<=w.heap.size+3 by omega) (.string ⟨#[]⟩) (.int .i64 0) (.int .i64 0) (.int .i64 0));go_wp2_with fail
       refine bodyPost_ret (v:=.tuple #[.agg (shC n k wr0 r D mw (.slice ao la ca)),.agg #[.string ⟨#[]⟩,.int .i64 0,.int .i64 0,.int .i64 0],.int .i64 1]) (by simp[results,Tryz.results47,go_sem,y0,y1,y2,y3,y4,y5,y6,z0,z1,z2,z3];try rfl) rfl ?_;rw[HF.out];exact⟨D,All,ao,ca,by rw[HLA.out,HMW.out];rfl,HSH.out,HR.out.below HBZ.out,HNO.out,.inl rfl,HBZ.out⟩
   obtain⟨M,rfl⟩:∃M:Nat,m=M:=⟨m.toNat,by omega⟩
   have hMu:M<=u:=by omega
   have hcap:=(Qu HOU.out).1;have hcap2:=(Qu HOU.out).2;have t4:decide ((M:Int)<0)=false:=decide_eq_false (by omega);have t5:decide ((u:Int)<(M:Int))=false:=decide_eq_false (by omega);have t5':decide (u<M)=false:=decide_eq_false (by omega);have m0:(0:Int)<=(M:Int):=by omega
   have m1:(M:Int)<=(cap2:Int):=by omega
   have m1':M<=cap2:=by omega
   clear g0;obtain⟨UM,hUM⟩:∃UM,U.take M=UM:=⟨_,rfl⟩
   have hML:UM.length=M:=by rw[<-hUM,List.length_take];have:=HUL.out;omega
   have HUMN:Hid (∀i,i∈UM->i<n):=zH fun i hi=>HUM.out i (by rw[<-hUM]at hi;exact List.mem_of_mem_take hi)
   have HNDM:Hid UM.Nodup:=zH (by rw[<-hUM];exact HND.out.sublist (List.take_sublist _ _));have HRM:Hid (Reads W4 ao2 (zZ UM)):=zH (by
    intro j v hv;apply HRU4.out j v;rw[<-hUM]at hv;unfold zZ at hv ⊢;rw[List.getElem?_map]at hv ⊢;rw[List.getElem?_take]at hv
    split at hv
    . exact hv
    . cases hv)
   have HML:=zH hML;have HUMT:=zH hUM;have HUT:Hid (UM.take M=UM):=zH (List.take_of_length_le (by rw[HML.out];exact Nat.le_refl _));have HF0:Hid (wrF n k wr0 st 2 key (M:Int) text=if UM.any (fun i=>decide (8<=(st.kp i key).length))=true then(st,Tl.no,11) else(UM.foldl (qo A k text key) st.up1,⟨ByteArray.empty,A,0⟩,0)):=zH (by
    unfold wrF;rw[if_pos rfl];unfold vT;rw[if_neg (fun h=>h HE0.out),HU.out,HUL.out,if_neg (by omega)];rw[Int.toNat_natCast,hUM,HMW.out,HA.out])
   clear hUM hML b0 b1 b2 b3 b4 b5 b6 c0 c1 c2 c3 fb0 fb1 fb2 fb3 fb4 fb5 fb6 fc0 fc1 fc2 fc3;go_wp2_with fail
   clear x0 x1 x2 x3 x4 x5 x6 d0 d1 d2;go_loopw [77] (fun vj wr=>∃j:Nat,vj=.int .i64 j/\j<=M/\Hid (Below W4.heap.size W4 wr)/\Hid (∀i,i∈UM.take j->(st.kp i key).length<8)) (fun vj _=>M-(intOf vj).toNat)
   case atStart=>exact⟨0,rfl,by omega,zH (Below.refl _ _),zH (by intro i hi;cases hi)⟩
   case round=>
    obtain⟨j,rfl,hj,HB,HLT⟩:=hrel;obtain⟨wq,rfl⟩:∃wq,wq=wr:=⟨_,rfl⟩
    by_cases hju:j<M
    . obtain⟨i,hi⟩:∃i,UM[j]?=some i:=⟨UM[j]'(by rw[HML.out];exact hju),List.getElem?_eq_getElem _⟩
      have hin:=HUMN.out i (List.mem_of_getElem? hi);obtain⟨bu,ou,hra,xu⟩:=(HRM.out.below HB.out) j _ (yN hi);cases hra;have HXq:=zH ((HB.out.block w.heap.size (by have:=HS4.out.1;omega)).trans HX4.out);have HDq:=zH ((HB.out.block (w.heap.size+1) (by have:=HS4.out.1;omega)).trans HD4.out);have HRq:=zH (HR4.out.below HB.out);obtain⟨x0,x1,x2,x3,x4,x5,x6⟩:=zc7 HXq.out;have d1:=zd HDq.out 1;simp only[List.getElem?_toArray,List.getElem?_cons_zero,List.getElem?_cons_succ]at d1;have CK:=zH (vK n k wr0 r D mw ao la ca All i key wq HLA.out hl3 HRq);unfold kH at CK;rw[HSH.out.kp i key hin hkey]at CK;have HTK:Hid (UM.take (j+1)=UM.take j++[i]):=zH (qF hi);have hmem:Hid (i∈UM):=zH (List.mem_of_getElem? hi);clear hi;go_wp2_with fail
      (with_reducible refine CK.out.mono ?_)
      rintro e w7 ⟨a7,c7,rfl,ho7,hb7⟩;have HB47:Hid (Below W4.heap.size W4 w7):=zH (HB.out.trans (hb7.mono HB.out.size));clear ho7 hb7 CK x0 x1 x2 x3 x4 x5 x6 d1;obtain⟨lk,hlk⟩:∃lk,(st.kp i key).length=lk:=⟨_,rfl⟩
      rw[hlk];by_cases g8:8<=lk
      . have t8:decide ((8:Int)<=(lk:Int))=true:=decide_eq_true (by omega);have t8':decide (8<=lk)=true:=decide_eq_true (by omega);have HF:Hid (wrF n k wr0 st 2 key (M:Int) text=(st,Tl.no,11)):=zH (by
         rw[HF0.out,if_pos (List.any_eq_true.2 ⟨i,hmem.out,decide_eq_true (by rw[hlk];exact g8)⟩)])
        have HX7:=zH ((HB47.out.block w.heap.size (by have:=HS4.out.1;omega)).trans HX4.out);have HD7:=zH ((HB47.out.block (w.heap.size+1) (by have:=HS4.out.1;omega)).trans HD4.out);have HZ7:=zH ((HB47.out.block (w.heap.size+2) (by have:=HS4.out.1;omega)).trans HZ4.out);have HT7:=zH ((HB47.out.block (w.heap.size+3) (by have:=HS4.out.1;omega)).trans HT4.out);have HB7:Hid (Below w.heap.size w w7):=zH (HB4.out.trans (HB47.out.mono HB4.out.size));clear g8 hlk;obtain⟨x0,x1,x2,x3,x4,x5,x6⟩:=zc7 HX7.out;obtain⟨d0,d1,d2,d3⟩:=zc4 HD7.out;obtain⟨b0,b1,b2,b3,b4,b5,b6⟩:=zc7 HZ7.out;obtain⟨c0,c1,c2,c3⟩:=zc4 HT7.out;obtain⟨fb0,fb1,fb2,fb3,fb4,fb5,fb6⟩:=zf7 HZ7.out;obtain⟨fc0,fc1,fc2,fc3⟩:=zf4 HT7.out;obtain⟨qq1,qq2⟩:=zD (A:=w.heap.size+2) (B:=w.heap.size+3) (by omega) HZ7.out HT7.out (.int .i64 (n:Int)) (.int .i64 (k:Int)) (.int .i64 (wr0:Int)) (.int .i64 (r:Int)) (.int .u16 (D:Int)) (.int .i64 (mw:Int)) (.slice ao la ca) (.string ⟨#[]⟩) (.int .i64 0) (.int .i64 0) (.int .i64 0);obtain⟨y0,y1,y2,y3,y4,y5,y6⟩:=zc7 qq1;obtain⟨z0,z1,z2,z3⟩:=zc4 qq2;clear qq1 qq2;have HBZ:=zH (zn (zj HB7.out (show w.heap.size<=w.heap.size+2 by omega) (.int .i64 (n:Int)) (.int .i64 (k:Int)) (.int .i64 (wr0:Int)) (.int .i64 (r:Int)) (.int .u16 (D:Int)) (.int .i64 (mw:Int)) (.slice ao la ca)) (show w.heap.size<=w.heap.size+3 by omega) (.string ⟨#[]⟩) (.int .i64 0) (.int .i64 0) (.int .i64 0));go_wp2_with fail
        refine bodyPost_ret (v:=.tuple #[.agg (shC n k wr0 r D mw (.slice ao la ca)),.agg #[.string ⟨#[]⟩,.int .i64 0,.int .i64 0,.int .i64 0],.int .i64 11]) (by simp[results,Tryz.results47,go_sem,y0,y1,y2,y3,y4,y5,y6,z0,z1,z2,z3];try rfl) rfl ?_;rw[HF.out];exact⟨D,All,ao,ca,by rw[HLA.out,HMW.out];rfl,HSH.out,HR.out.below HBZ.out,HNO.out,.inl rfl,HBZ.out⟩
      . have t8:decide ((8:Int)<=(lk:Int))=false:=decide_eq_false (by omega);have t8':decide (8<=lk)=false:=decide_eq_false (by omega);have HLT2:Hid (∀i,i∈UM.take (j+1)->(st.kp i key).length<8):=zH (by
         intro q hq;rw[HTK.out]at hq;rcases List.mem_append.1 hq with hq|hq
         . exact HLT.out q hq
         . rw[List.mem_singleton.1 hq,hlk];omega)
        clear g8 hlk;go_wp2_with fail
        go_roundw
        case rel=>exact⟨j+1,by go_num,by omega,HB47,HLT2⟩
        case measure=>simp[intOf];omega
    . obtain rfl:M=j:=by omega
      rw[HUT.out]at HLT;have HL0:=HLA;have HNOL:Hid (ao=none->la=0/\ca=0):=zH (by have h1:=HNO.out;rw[HLA.out]at h1;exact h1);have HRl:Hid (Reads wq ao (ze All)):=zH (HR4.out.below HB.out);have HUUL:=HML;have HRUU:=HRM;have HBQ:=HB;have HPF:Hid (wrF n k wr0 st 2 key (M:Int) text=(UM.foldl (qo A k text key) st.up1,⟨ByteArray.empty,A,0⟩,0)):=zH (by
       rw[HF0.out,if_neg];intro h;obtain⟨i,h1,h2⟩:=List.any_eq_true.1 h;have h3:=HLT.out i h1;have h4:=of_decide_eq_true h2;omega)
      have HSP:Hid (Shl n D (vv key A k text UM All) (UM.foldl (qo A k text key) st.up1)):=zH (by
       have h1:=HSH.out.torn HT60.out hk1 hkey HMN.out UM HNDM.out HUMN.out;rw[HMW.out,HA.out]at h1;exact h1)
      have HSTW:Hid ((UM.foldl (qo A k text key) st.up1).wr=A):=zH (by
       have h1:=(QN (a:=A) (k:=k) (key:=key) HT60.out hk1 (by have:=HA.out;omega) UM st.up1 HNDM.out (HSH.out.ok.up1 HMN.out) (by show A<=st.wr+1;rw[HMW.out,HA.out];exact Nat.le_refl _) (fun i _ x hx=>by
        have h2:=(HSH.out.ok.rng i key x hx).2.1;have h3:=HMW.out;have h4:=HA.out;omega)).2.1
       rw[h1];show st.wr+1=A;rw[HMW.out,HA.out])
      have CC:=zH (kK All la ao ca wq.heap.size wq (by omega) HL0.out HNOL.out (zH HRl.out) (Nat.le_refl _));unfold Ys at CC;have HWC4:Hid (W4.heap.size<=wq.heap.size):=zH HBQ.out.size;go_wp2_with fail
      (with_reducible refine CC.out.mono ?_)
      rintro e w6 ⟨a6,c6,rfl,ho6,hb6⟩;have HO6:=zH ho6;have HB6:=zH hb6;clear ho6 hb6 CC;go_wp2_with fail
      go_loopw [10,107] (fun va vj wr=>∃j:Nat,vj=.int .i64 j/\j<=M/\Hid (wr.ownsRow wq.heap.size 108 5 va (la+j) (ze (vv key A k text (UM.take j) All)))/\Hid (Below wq.heap.size wq wr)) (fun _ vj _=>M-(intOf vj).toNat)
      case atStart=>exact⟨0,rfl,by omega,zH (by have:=HO6.out;unfold vv;simpa using this),HB6⟩
      case round=>
       clear HO6 HB6;obtain⟨j,rfl,hj,HO,HB⟩:=hrel;obtain⟨wz,rfl⟩:∃wz,wz=wr:=⟨_,rfl⟩
       have HBz:Hid (Below W4.heap.size W4 wz):=zH (HBQ.out.trans (HB.out.mono HWC4.out));obtain⟨az,cz,rfl,_,_,_⟩:=zr HO.out;by_cases hju:j<M
       . obtain⟨i,hi⟩:∃i,UM[j]?=some i:=⟨UM[j]'(by rw[HUUL.out];exact hju),List.getElem?_eq_getElem _⟩
         have hin:=HUMN.out i (List.mem_of_getElem? hi);obtain⟨bu,ou,hra,xu⟩:=(HRUU.out.below HBz.out) j _ (yN hi);cases hra;obtain⟨bp,op,hrp,xp⟩:=(HRP4.out.below HBz.out) i _ (zG _ hin);cases hrp;have dz1:=(HBz.out.cell (p:=⟨w.heap.size+1,1,none⟩) (show w.heap.size+1<W4.heap.size by have:=HS4.out.1;omega)).trans (show W4.cell? ⟨w.heap.size+1,1,none⟩=some (.int .i64 (key:Int)) by rw[zd HD4.out];rfl);have tz0:=(HBz.out.cell (p:=⟨w3.heap.size,0,none⟩) HS4.out.2).trans (show W4.cell? ⟨w3.heap.size,0,none⟩=some (.int .i64 (A:Int)) by rw[zd HAT4.out];rfl);have tz1:=(HBz.out.cell (p:=⟨w3.heap.size,1,none⟩) HS4.out.2).trans (show W4.cell? ⟨w3.heap.size,1,none⟩=some (.int .i64 0) by rw[zd HAT4.out];rfl);have HAS:=zH (VD key A k text All hi);obtain⟨PC,hPC⟩:∃PC,pcs text k i=PC:=⟨_,rfl⟩
         rw[hPC]at xp HAS;have hm1:Hid (la+j+1<=maxLen):=zH (by unfold maxLen;omega);have hm2:Hid ((la+j+1)*48<=140737488355328):=zH (by omega);have HBASE:Hid (wq.heap.size<=wz.heap.size):=zH HB.out.size;have i0:(0:Int)<=(i:Int):=by omega
         have i1:(i:Int)<(n:Int):=by omega
         clear hi hPC;go_wp2_with fail
         go_region_law (first
          |(refine qJ ?_ (.tmp 111) (.tmp 122) 39 ?_ wq.heap.size 108 _ 5 48 Tryz.underlying39 qI (.slice az (la+j) cz) (la+j) _ ?_ wz HO.out HBASE.out ?_ ?_ #[.int .i64 (i:Int),.int .i64 (key:Int),.int .i64 (A:Int),.int .i64 0,.string PC] ?_ ?_ rfl ?_ hm1.out hm2.out ?_;(focus rfl);(focus rfl);(focus rfl);(focus (repeat(first|(with_reducible exact Below.refl _ _)|(with_reducible apply zb)|(with_reducible apply zg)|(with_reducible refine Below.alloc ?_ (by simp;try omega) _)|fail)));rotate_left;(focus rfl);(focus (repeat(first|(with_reducible exact zl _ _ _ (by simp;try omega))|(with_reducible apply yu)|(with_reducible apply yO)|(with_reducible apply za)|fail)));(focus (intro u hu;simp at hu;rcases hu with rfl|rfl|rfl|rfl|rfl<;>rfl));intro g9 c9 w9 hown9 hgr9 hat9)
          |fail)
         all_goals
          have HO9:Hid (w9.ownsRow wq.heap.size 108 5 (.slice (some ⟨g9,0,none⟩) (la+(j+1)) c9) (la+(j+1)) (ze (vv key A k text (UM.take (j+1)) All))):=zH (by rw[HAS.out,yG];exact hown9);have HB9:Hid (Below wq.heap.size wq w9):=zH (HB.out.trans ((Below.refl _ wz).grown hgr9 HBASE.out fun q hq=>(HO.out.lt q hq).1));clear hown9 hgr9 hat9;go_wp2_with fail
          go_roundw
          case rel=>exact⟨j+1,by go_num,by omega,HO9,HB9⟩
          case measure=>simp[intOf];omega
       . obtain rfl:M=j:=by omega
         have HXz:Hid (wz.heap[w.heap.size]?=some (.cells (shC n k wr0 r D mw (.slice ao la ca)) 41 (0,0))):=zH ((HBz.out.block w.heap.size (by have:=HS4.out.1;omega)).trans HX4.out);have x5:=zd HXz.out 5;have x6:=zd HXz.out 6;simp only[List.getElem?_toArray,List.getElem?_cons_zero,List.getElem?_cons_succ]at x5 x6;have fx5:=zm HXz.out 5;have fx6:=zm HXz.out 6;obtain⟨ln,hln⟩:∃ln,la+M=ln:=⟨_,rfl⟩
         rw[hln]at HO;obtain⟨XW,hXW⟩:∃XW,(wz.setCell ⟨w.heap.size,5,none⟩ (.int .i64 (A:Int))).setCell ⟨w.heap.size,6,none⟩ (.slice az ln cz)=XW:=⟨_,rfl⟩
         have HXX:Hid (XW.heap[w.heap.size]?=some (.cells (shC n k wr0 r D A (.slice az ln cz)) 41 (0,0))):=zH (by rw[<-hXW,heap_set _ (heap_set _ HXz.out)];rfl);have hfar:∀g,g≠w.heap.size->XW.heap[g]?=wz.heap[g]? :=fun g hg=>by rw[<-hXW,zf _ (fun e:w.heap.size=g=>hg e.symm),zf _ (fun e:w.heap.size=g=>hg e.symm)]
         have HZX:Hid (XW.heap[w.heap.size+2]?=some (.cells #[.int .i64 0,.int .i64 0,.int .i64 0,.int .i64 0,.int .u16 0,.int .i64 0,.slice none 0 0] 41 (0,0))):=zH ((hfar _ (by omega)).trans ((HBz.out.block (w.heap.size+2) (by have:=HS4.out.1;omega)).trans HZ4.out));have HTX:Hid (XW.heap[w.heap.size+3]?=some (.cells #[.string ⟨#[]⟩,.int .i64 0,.int .i64 0,.int .i64 0] 70 (0,0))):=zH ((hfar _ (by omega)).trans ((HBz.out.block (w.heap.size+3) (by have:=HS4.out.1;omega)).trans HT4.out));have HAX:Hid (XW.heap[w3.heap.size]?=some (.cells #[.int .i64 (A:Int),.int .i64 0] 68 (0,0))):=zH ((hfar _ (by omega)).trans ((HBz.out.block w3.heap.size HS4.out.2).trans HAT4.out));have HOX:Hid (XW.ownsRow wq.heap.size 108 5 (.slice az ln cz) ln (ze (vv key A k text (UM.take M) All))):=zH (by
          rw[<-hXW];have hne:(Value.slice az ln cz).ownBlock≠some w.heap.size:=fun e=>by have:=(HO.out.lt _ e).1;have:=HWC4.out;have:=HS4.out.1;omega
          exact(HO.out.kept (zO _ _ _ _) (.inr hne)).kept (zO _ _ _ _) (.inr hne))
         have HBX:Hid (Below w.heap.size w XW):=zH (by rw[<-hXW];exact zk (zk (HB4.out.trans (HBz.out.mono HB4.out.size)) (Nat.le_refl _) _) (Nat.le_refl _) _);obtain⟨xx0,xx1,xx2,xx3,xx4,xx5,xx6⟩:=zc7 HXX.out;obtain⟨at0,at1⟩:=zc2 HAX.out;obtain⟨b0,b1,b2,b3,b4,b5,b6⟩:=zc7 HZX.out;obtain⟨c0,c1,c2,c3⟩:=zc4 HTX.out;obtain⟨fb0,fb1,fb2,fb3,fb4,fb5,fb6⟩:=zf7 HZX.out;obtain⟨fc0,fc1,fc2,fc3⟩:=zf4 HTX.out;have HLN:=zH hln;have hw34:w.heap.size+4<=w3.heap.size:=by have:=HB23.out.size;have:=HS2.out;omega
         have HN2:Hid (w.heap.size≠w.heap.size+1+1):=zH (by omega);have HM2:Hid (w.heap.size≠w.heap.size+1+1+1):=zH (by omega);have HN3:Hid (w3.heap.size≠w.heap.size+1+1):=zH (by omega);have HM3:Hid (w3.heap.size≠w.heap.size+1+1+1):=zH (by omega);clear hw34;clear hfar;rw[hln];go_wp2_with fail
         clear hXW hln
         go_region_held (fun w'=>w'.cell? ⟨w.heap.size,0,none⟩=some (.int .i64 (n:Int))/\w'.cell? ⟨w.heap.size,1,none⟩=some (.int .i64 (k:Int))/\w'.cell? ⟨w.heap.size,2,none⟩=some (.int .i64 (wr0:Int))/\w'.cell? ⟨w.heap.size,3,none⟩=some (.int .i64 (r:Int))/\w'.cell? ⟨w.heap.size,4,none⟩=some (.int .u16 (D:Int))/\w'.cell? ⟨w.heap.size,5,none⟩=some (.int .i64 (A:Int))/\w'.cell? ⟨w.heap.size,6,none⟩=some (.slice az ln cz)/\w'.cell? ⟨w3.heap.size,0,none⟩=some (.int .i64 (A:Int))/\w'.cell? ⟨w3.heap.size,1,none⟩=some (.int .i64 0)) (first|(with_reducible exact⟨zh (zR HN2.out xx0),zh (zR HN2.out xx1),zh (zR HN2.out xx2),zh (zR HN2.out xx3),zh (zR HN2.out xx4),zh (zR HN2.out xx5),zh (zR HN2.out xx6),zh (zR HN3.out at0),zh (zR HN3.out at1)⟩)|(with_reducible exact⟨zh (zV HM2.out xx0),zh (zV HM2.out xx1),zh (zV HM2.out xx2),zh (zV HM2.out xx3),zh (zV HM2.out xx4),zh (zV HM2.out xx5),zh (zV HM2.out xx6),zh (zV HM3.out at0),zh (zV HM3.out at1)⟩)|(with_reducible exact⟨zh (zV HM2.out (zR HN2.out xx0)),zh (zV HM2.out (zR HN2.out xx1)),zh (zV HM2.out (zR HN2.out xx2)),zh (zV HM2.out (zR HN2.out xx3)),zh (zV HM2.out (zR HN2.out xx4)),zh (zV HM2.out (zR HN2.out xx5)),zh (zV HM2.out (zR HN2.out xx6)),zh (zV HM3.out (zR HN3.out at0)),zh (zV HM3.out (zR HN3.out at1))⟩)|(with_reducible exact⟨zh (zR HN2.out (zV HM2.out xx0)),zh (zR HN2.out (zV HM2.out xx1)),zh (zR HN2.out (zV HM2.out xx2)),zh (zR HN2.out (zV HM2.out xx3)),zh (zR HN2.out (zV HM2.out xx4)),zh (zR HN2.out (zV HM2.out xx5)),zh (zR HN2.out (zV HM2.out xx6)),zh (zR HN3.out (zV HM3.out at0)),zh (zR HN3.out (zV HM3.out at1))⟩)|go_keep) (fail)
         obtain⟨qq1,qq2⟩:=zD (A:=w.heap.size+2) (B:=w.heap.size+3) (by omega) HZX.out HTX.out (.int .i64 (n:Int)) (.int .i64 (k:Int)) (.int .i64 (wr0:Int)) (.int .i64 (r:Int)) (.int .u16 (D:Int)) (.int .i64 (A:Int)) (.slice az ln cz) (.string ⟨#[]⟩) (.int .i64 (A:Int)) (.int .i64 0) (.int .i64 0);obtain⟨yy0,yy1,yy2,yy3,yy4,yy5,yy6⟩:=zc7 qq1;obtain⟨zz0,zz1,zz2,zz3⟩:=zc4 qq2;clear qq1 qq2;obtain⟨qq1,qq2⟩:=Qe (A:=w.heap.size+2) (B:=w.heap.size+3) (by omega) HZX.out HTX.out (.int .i64 (n:Int)) (.int .i64 (k:Int)) (.int .i64 (wr0:Int)) (.int .i64 (r:Int)) (.int .u16 (D:Int)) (.int .i64 (A:Int)) (.slice az ln cz) (.string ⟨#[]⟩) (.int .i64 (A:Int)) (.int .i64 0) (.int .i64 0);obtain⟨vv0,vv1,vv2,vv3,vv4,vv5,vv6⟩:=zc7 qq1;obtain⟨uu0,uu1,uu2,uu3⟩:=zc4 qq2;clear qq1 qq2;have HF1:=zH (zb (zn (zj HBX.out (show w.heap.size<=w.heap.size+2 by omega) (.int .i64 (n:Int)) (.int .i64 (k:Int)) (.int .i64 (wr0:Int)) (.int .i64 (r:Int)) (.int .u16 (D:Int)) (.int .i64 (A:Int)) (.slice az ln cz)) (show w.heap.size<=w.heap.size+3 by omega) (.string ⟨#[]⟩) (.int .i64 (A:Int)) (.int .i64 0) (.int .i64 0)));have HF2:=zH (zb (zj (zn HBX.out (show w.heap.size<=w.heap.size+3 by omega) (.string ⟨#[]⟩) (.int .i64 (A:Int)) (.int .i64 0) (.int .i64 0)) (show w.heap.size<=w.heap.size+2 by omega) (.int .i64 (n:Int)) (.int .i64 (k:Int)) (.int .i64 (wr0:Int)) (.int .i64 (r:Int)) (.int .u16 (D:Int)) (.int .i64 (A:Int)) (.slice az ln cz)));have HG1:=zH (Q8 (Qz (pC HOX.out (A:=w.heap.size+2) (by have:=HWC4.out;have:=HS4.out.1;omega) (.int .i64 (n:Int)) (.int .i64 (k:Int)) (.int .i64 (wr0:Int)) (.int .i64 (r:Int)) (.int .u16 (D:Int)) (.int .i64 (A:Int)) (.slice az ln cz)) (B:=w.heap.size+3) (by have:=HWC4.out;have:=HS4.out.1;omega) (.string ⟨#[]⟩) (.int .i64 (A:Int)) (.int .i64 0) (.int .i64 0)));have HG2:=zH (Q8 (pC (Qz HOX.out (B:=w.heap.size+3) (by have:=HWC4.out;have:=HS4.out.1;omega) (.string ⟨#[]⟩) (.int .i64 (A:Int)) (.int .i64 0) (.int .i64 0)) (A:=w.heap.size+2) (by have:=HWC4.out;have:=HS4.out.1;omega) (.int .i64 (n:Int)) (.int .i64 (k:Int)) (.int .i64 (wr0:Int)) (.int .i64 (r:Int)) (.int .u16 (D:Int)) (.int .i64 (A:Int)) (.slice az ln cz)));have HLF:Hid ((vv key A k text UM All).length=ln):=zH (by rw[JA,HL0.out,HUUL.out,HLN.out])
         all_goals
          go_wp2_with fail
          first
           |(refine bodyPost_ret (v:=.tuple #[.agg (shC n k wr0 r D A (.slice az ln cz)),.agg #[.string ⟨#[]⟩,.int .i64 (A:Int),.int .i64 0,.int .i64 0],.int .i64 0]) (by simp[results,Tryz.results47,go_sem,yy0,yy1,yy2,yy3,yy4,yy5,yy6,zz0,zz1,zz2,zz3];done) rfl ?_;have HFF:=HF1;have HGG:=HG1)
           |(refine bodyPost_ret (v:=.tuple #[.agg (shC n k wr0 r D A (.slice az ln cz)),.agg #[.string ⟨#[]⟩,.int .i64 (A:Int),.int .i64 0,.int .i64 0],.int .i64 0]) (by simp[results,Tryz.results47,go_sem,vv0,vv1,vv2,vv3,vv4,vv5,vv6,uu0,uu1,uu2,uu3];done) rfl ?_;have HFF:=HF2;have HGG:=HG2)
           |fail
          rw[HUT.out]at HGG;rw[HPF.out];refine⟨D,vv key A k text UM All,az,cz,?_,HSP.out,HGG.out.1,fun h0=>?_,.inr fun a ha=>?_,HFF.out⟩
          . show Ending.returned _=Ending.returned (.tuple #[.agg (shC n k wr0 r D (UM.foldl (qo A k text key) st.up1).wr (.slice az (vv key A k text UM All).length cz)),_,_]);rw[HLF.out,HSTW.out];rfl
          . have:=HGG.out.2.1 h0;rw[HLF.out];exact this
          . have h1:=HGG.out.2.2 a ha;have h2:=HWC4.out;have h3:=HS4.out.1;exact⟨by omega,(show∀(v:World) (q:Nat),q<v.heap.size->q<v.drew.heap.size from fun _ _ h=>h) _ _ h1.2⟩
end Go.Proofs.YtmgfbmkfomebcaaGreatDoor
