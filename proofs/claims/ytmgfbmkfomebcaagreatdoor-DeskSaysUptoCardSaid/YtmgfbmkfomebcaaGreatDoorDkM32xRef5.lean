/- The reference's getOf. (Printed by wip/tools/gen_ref5.py.) -/
import Derived.Test.YtmgfbmkfomebcaaGreatDoorDkM24
import Derived.Test.YtmgfbmkfomebcaaGreatDoorDkM13
import Derived.Test.YtmgfbmkfomebcaaGreatDoorDkM31xPiece9
import Derived.Test.YtmgfbmkfomebcaaGreatDoorDkM21
import Derived.Test.YtmgfbmkfomebcaaGreatDoorDkM20xStore3
import Derived.Test.YtmgfbmkfomebcaaGreatDoorDkM29
import Derived.Deep.RegionHeld
import Derived.Deep.RegionHeld3
import Derived.Deep.RegionLaw
set_option linter.unusedVariables false
set_option linter.unusedSimpArgs false
set_option maxRecDepth 100000
set_option maxHeartbeats 24000000
namespace Go.Proofs.YtmgfbmkfomebcaaGreatDoor
open Go.RowKit
noncomputable def gtF(n k wr r:Nat)(st:St)(kind:Int)(key:Nat):St×Tl×Nat:=
 if kind=8 then((yI n k wr r st key).1,⟨ByteArray.empty,0,(yI n k wr r st key).2.1.mn⟩,(yI n k wr r st key).2.2)
 else((yI n k wr r st key).1,⟨(yI n k wr r st key).2.1.tx,(yI n k wr r st key).2.1.at',0⟩,(yI n k wr r st key).2.2)
theorem Kt{n k wr r:Nat}{st:St}{kind:Int}{key E:Nat}(h:yI n k wr r st key=(st,Tl.no,E)):gtF n k wr r st kind key=(st,Tl.no,E):=by
 unfold gtF;rw[h]
 split<;>rfl
theorem yU{w:World}{g j:Nat}{v:Value}{ao:Option Addr}{xs:List Value}(h:Reads w ao xs)(hne:∀a,ao=some a->a.block≠g):Reads (w.setCell ⟨g,j,none⟩ v) ao xs:=by
 intro q x hq;obtain⟨b,o,hb,hc⟩:=h q x hq;exact⟨b,o,hb,z7 (hne _ hb) hc⟩
theorem tk1{α:Type}{l:List α}{q:Nat}{x:α}(h:l[q]?=some x):l.take (q+1)=l.take q++[x]:=by
 obtain⟨hq,he⟩:=List.getElem?_eq_some_iff.1 h;rw[List.take_succ_eq_append_getElem hq,he]
theorem JE{l:List Kp}(h:l.Pairwise (fun x y=>x.1<y.1)){e:Nat}{x:Kp}(hx:l[e]?=some x):vu (l.take (e+1)) x.1=x.2:=by
 apply zb4 (j:=e) (l:=l.take (e+1)) (h.sublist (List.take_sublist _ _));rw[List.getElem?_take,if_pos (by omega)];exact hx
theorem VE{l:List Kp}{e a:Nat}{x:Kp}(hx:l[e]?=some x)(hne:x.1≠a):vu (l.take (e+1)) a=vu (l.take e) a:=by
 unfold vu;rw[show l.take (e+1)=l.take e++[x] from tk1 hx,List.find?_append];have:[x].find? (fun y=>y.1==a)=none:=by
  rw[List.find?_cons,show(x.1==a)=false by rw[beq_eq_false_iff_ne];exact hne];rfl
 rw[this,Option.or_none]
def qy(st:St)(key a:Nat)(U:List Nat)(p i:Nat)(L:List Kp)(e:Nat)(x:Nat):Value:=if x=i then .string (vu (L.take e) a) else qC st key a U p x
theorem ZF(st:St)(key a:Nat){U:List Nat}(hu:U.Nodup){p i:Nat}(h:U[p]?=some i)(L:List Kp)(x:Nat):qC st key a U p x=qy st key a U p i L 0 x:=by
 unfold qy;by_cases hx:x=i
 . subst hx;rw[if_pos rfl];unfold qC;rw[if_neg,List.take_zero];rfl;intro hm;obtain⟨q,hq⟩:=List.getElem?_of_mem hm;rw[List.getElem?_take]at hq
   split at hq
   . have:=(List.getElem?_inj (List.getElem?_eq_some_iff.1 h).1 hu).1 (h.trans hq.symm);omega
   . cases hq
 . rw[if_neg hx]
theorem VF(st:St)(key a:Nat){U:List Nat}{p i:Nat}(h:U[p]?=some i)(x:Nat):qy st key a U p i (st.kp i key) (st.kp i key).length x=qC st key a U (p+1) x:=by
 unfold qy;rw[List.take_length];exact pT st key a h x
theorem VG(st:St)(key a:Nat)(U:List Nat)(p i:Nat)(L:List Kp)(e:Nat)(v:ByteArray)(hv:vu (L.take (e+1)) a=v)(x:Nat):(if x=i then Value.string v else qy st key a U p i L e x)=qy st key a U p i L (e+1) x:=by
 unfold qy;by_cases hx:x=i
 . rw[if_pos hx,if_pos hx,hv]
 . rw[if_neg hx,if_neg hx,if_neg hx]
theorem Y6(st:St)(key a:Nat)(U:List Nat)(p i:Nat)(L:List Kp)(e:Nat)(hv:vu (L.take (e+1)) a=vu (L.take e) a)(x:Nat):qy st key a U p i L e x=qy st key a U p i L (e+1) x:=by
 unfold qy;rw[hv]
theorem Q9{w wq W:World}{A B:Nat}{al ao:Option Addr}{FU All:List It}(h:(al=ao/\FU=All)\/∀a,al=some a->a.block≠A/\a.block≠B)(hR:Reads w ao (ze All))(hB:Below w.heap.size w W)(hRl:Reads wq al (ze FU))
 (hfar:∀b o c,b≠A->b≠B->wq.cell? ⟨b,o,none⟩=some c->W.cell? ⟨b,o,none⟩=some c):Reads W al (ze FU):=by
 rcases h with h|h
 . rw[h.1,h.2];exact hR.below hB
 . intro q v hv;obtain⟨b,o,hb,hc⟩:=hRl q v hv;exact⟨b,o,hb,hfar _ _ _ (h _ hb).1 (h _ hb).2 hc⟩
def AvB(S z:Nat)(g:Nat):Prop:=S<g/\g<z
theorem vM{S z:Nat}{wa wr:World}{ao:Option Addr}{xs:List Value}(hk:Kept (AvB S z) S wa wr)(hz:wa.heap.size=z)(hR:Reads wa ao xs)(hne:∀a,ao=some a->a.block≠S):Reads wr ao xs:=by
 intro q v hv;obtain⟨b,o,hb,hc⟩:=hR q v hv;have hlt:b<wa.heap.size:=World.block_lt_of_cell? wa ⟨b,o+q,none⟩ hc;have hn:b≠S:=hne _ hb;refine⟨b,o,hb,?_⟩;rcases Nat.lt_or_gt_of_ne hn with h|h
 . exact(hk.bel.cell (p:=⟨b,o+q,none⟩) h).trans hc
 . exact(Ja (hk.blk b ⟨h,by omega⟩)).trans hc
theorem vZ{S zz j:Nat}{wa wb wc:World}{o:Option Nat}(hb:Below zz wa wb)(hS:S<zz)(hzz:zz<=wb.heap.size)(hg:wb.grownBy wc o)(ho:∀q,o=some q->zz<=q)(v:Value):Kept (AvB S zz) S wa (wc.setCell ⟨S,j,none⟩ v):=
 ⟨zk ((hb.mono (Nat.le_of_lt hS)).grown hg (by omega) (fun q hq=>by have:=ho q hq;omega)) (Nat.le_refl _) v,
  fun g hg2=>by
   obtain⟨h1,h2⟩:=hg2;rw[zf _ (by omega),hg.block g (by omega) (fun e=>by have:=ho g e.symm;omega),hb.block g h2]⟩
theorem zeP{w:World}{S o n k wr r D m:Nat}{a:Option Addr}{l c:Nat}{T:TypeId}{fr:Nat×Nat}{s:ByteArray}(h:w.heap[S]?=some (.cells (shC n k wr r D m (.slice a l c)) T fr)):w.cell? ⟨S,o,none⟩≠some (.string s):=by
 rw[zd h o];intro e
 match o with
 |0=>simp at e
 |1=>simp at e
 |2=>simp at e
 |3=>simp at e
 |4=>simp at e
 |5=>simp at e
 |6=>simp at e
 |q+7=>simp at e
theorem yM{w:World}{p:Addr}{c:Value}{o:Obj}(h:w.cell? p=some c):(w.alloc o).cell? p=some c:=(World.cell?_alloc_lt _ _ _ (World.block_lt_of_cell? w p h)).trans h
def fmK(i key a:Nat)(l:List Kp):List It:=(l.filter (fun x=>decide (a<x.1))).map fun x=>(i,key,x)
theorem Ym{i key a e:Nat}{l:List Kp}{x:Kp}(h:l[e]?=some x)(hx:a<x.1):fmK i key a (l.take (e+1))=fmK i key a (l.take e)++[(i,key,x)]:=by
 unfold fmK;rw[tk1 h,List.filter_append,List.map_append];simp[hx]
theorem Ku{i key a e:Nat}{l:List Kp}{x:Kp}(h:l[e]?=some x)(hx:¬a<x.1):fmK i key a (l.take (e+1))=fmK i key a (l.take e):=by
 unfold fmK;rw[tk1 h,List.filter_append,List.map_append];simp[hx]
theorem zeQ(k:Nat)(text:ByteArray)(a key:Nat)(l:List It)(i:Nat):jo k text a key l i=(yw (atB i key) l++[(i,key,a,pcs text k i)])++fmK i key a (zP l i key):=by
 unfold jo YX fmK;simp
theorem QB{w:World}{base e size n:Nat}{ao:Option Addr}{m cap:Nat}{xs:List Value}(h:w.ownsRow base e size (.slice ao m cap) n xs):∀a,ao=some a->base<=a.block:=fun a ha=>(h.lt a.block (by rw[ha];rfl)).1
theorem VH{n D k wr0 r:Nat}{All:List It}{st:St}(kind:Int)(hk38:kind=3\/kind=8)(key:Nat)(m:Int)(text:ByteArray)(hkey:key<3)(hk1:1<=k)(hkn:k<=n)(hn:n<=10)(h:Shl n D All st)(ao:Option Addr)(ca:Nat)(w:World)(hR:Reads w ao (ze All))(hnone:ao=none->All.length=0/\ca=0):
 Calls Tryz.prog 48 #[.agg (shC n k wr0 r D st.wr (.slice ao All.length ca)),deedV kind (key:Int) m text] w (yo n k wr0 r ao (gtF n k wr0 r st kind key) w):=by
 obtain⟨la,hla⟩:∃la,All.length=la:=⟨_,rfl⟩
 obtain⟨mw,hmw⟩:∃mw,st.wr=mw:=⟨_,rfl⟩
 have HK:=zH hk38;clear hk38;rw[hla,hmw];have hl3:la<=30000000:=by rw[<-hla];exact h.len hn
 obtain⟨W1,hW1⟩:∃W1,(((w.alloc (.cells (shC n k wr0 r D mw (.slice ao la ca)) 41)).alloc (.cells #[.int .i64 kind,.int .i64 (key:Int),.int .i64 m,.string text] 66)).alloc (.cells #[.int .i64 0,.int .i64 0,.int .i64 0,.int .i64 0,.int .u16 0,.int .i64 0,.slice none 0 0] 41)).alloc (.cells #[.string ⟨#[]⟩,.int .i64 0,.int .i64 0,.int .i64 0] 70)=W1:=⟨_,rfl⟩
 have hb0:=zc w (.cells (shC n k wr0 r D mw (.slice ao la ca)) 41);have hb1:Below w.heap.size w W1:=by rw[<-hW1];exact((hb0.alloc (by simp) _).alloc (by simp;omega) _).alloc (by simp;omega) _
 have hx1:W1.heap[w.heap.size]?=some (.cells (shC n k wr0 r D mw (.slice ao la ca)) 41 (0,0)):=by rw[<-hW1];exact za _ _ (za _ _ (za _ _ (heap_alloc_new w _)))
 have hd1:W1.heap[w.heap.size+1]?=some (.cells #[.int .i64 kind,.int .i64 (key:Int),.int .i64 m,.string text] 66 (0,0)):=by rw[<-hW1];exact za _ _ (za _ _ (zl _ _ _ (by simp)))
 have hz1:W1.heap[w.heap.size+2]?=some (.cells #[.int .i64 0,.int .i64 0,.int .i64 0,.int .i64 0,.int .u16 0,.int .i64 0,.slice none 0 0] 41 (0,0)):=by rw[<-hW1];exact za _ _ (zl _ _ _ (by simp))
 have ht1:W1.heap[w.heap.size+3]?=some (.cells #[.string ⟨#[]⟩,.int .i64 0,.int .i64 0,.int .i64 0] 70 (0,0)):=by rw[<-hW1];exact zl _ _ _ (by simp)
 have hs1:W1.heap.size=w.heap.size+4:=by rw[<-hW1];simp
 obtain⟨x0,x1,x2,x3,x4,x5,x6⟩:=zc7 hx1;have CU:=zH (Kg k wr0 r mw (.slice ao la ca) W1 hn ⟨_,_,_,rfl⟩ h);unfold kr at CU;have HUM:Hid (∀i,i∈ups n st->i<n):=zH fun i hi=>(vP.1 hi).1
 have HND:Hid (ups n st).Nodup:=zH (vS _ _);have hul:=kz n st;have HDONE:=zH (Yr n st key);have HNW:Hid (newest n k st key=(qS st key (ups n st) (ups n st).length).foldl (qP n k st key) (0,ByteArray.empty,false)):=zH (by unfold newest pX qS;rw[List.take_length]);have HRF:Hid (yI n k wr0 r st key=if(ups n st).length<r\/(ups n st).length<wr0 then(st,Tl.no,9) else if(newest n k st key).2.2=false then(st,Tl.no,4) else(((ups n st).foldl (qw k (newest n k st key).2.1 (newest n k st key).1 key) (st,0)).1,
  ⟨(newest n k st key).2.1,(newest n k st key).1,((ups n st).foldl (qw k (newest n k st key).2.1 (newest n k st key).1 key) (st,0)).2⟩,0)):=zH rfl
 obtain⟨U,hU⟩:∃U,ups n st=U:=⟨_,rfl⟩
 rw[hU]at CU HUM hul HND HDONE HNW HRF;obtain⟨u,hu⟩:∃u,U.length=u:=⟨_,rfl⟩
 rw[hu]at CU hul HDONE HNW HRF;have HU:=zH hU;have HUL:=zH hu;have HB1:=zH hb1;have HX1:=zH hx1;have HD1:=zH hd1;have HZ1:=zH hz1;have HT1:=zH ht1;have HS1:=zH hs1;have HLA:=zH hla;have HMW:=zH hmw;have HR:=zH hR;have HNO:=zH hnone;have HSH:=zH h;clear h hb0 hb1 hx1 hd1 hz1 ht1 hs1 hU hu hla hmw hR hnone;go_enter Tryz.func48,Tryz.ntmps48
 go_wp2_with fail
 (with_reducible refine CU.out.mono ?_)
 clear hW1 x0 x1 x2 x3 x4 x5 x6;rintro e w2 ⟨ao2,cap2,rfl,hown2,hb2⟩;have HB12:=zH hb2;have HB2:Hid (Below w.heap.size w w2):=zH (HB1.out.trans (hb2.mono HB1.out.size));have HX2:=zH ((hb2.block w.heap.size (by rw[HS1.out];omega)).trans HX1.out);have HD2:=zH ((hb2.block (w.heap.size+1) (by rw[HS1.out];omega)).trans HD1.out);have HZ2:=zH ((hb2.block (w.heap.size+2) (by rw[HS1.out];omega)).trans HZ1.out);have HT2:=zH ((hb2.block (w.heap.size+3) (by rw[HS1.out];omega)).trans HT1.out);have HS2:Hid (w.heap.size+4<=w2.heap.size):=zH (by have:=hb2.size;have:=HS1.out;omega);have HU2:Hid (Reads w2 ao2 (zZ U)):=zH (zF hown2);have HAU:Hid (∀a,ao2=some a->a.block≠w.heap.size):=zH (fun q hq=>by have h1:=QB hown2 q hq;have h2:=HS1.out;omega);have HR2:Hid (Reads w2 ao (ze All)):=zH (HR.out.below HB2.out);clear hb2 hown2 CU;obtain⟨x0,x1,x2,x3,x4,x5,x6⟩:=zc7 HX2.out;have d1:=zd HD2.out 1;obtain⟨b0,b1,b2,b3,b4,b5,b6⟩:=zc7 HZ2.out;obtain⟨c0,c1,c2,c3⟩:=zc4 HT2.out;simp only[List.getElem?_toArray,List.getElem?_cons_zero,List.getElem?_cons_succ]at d1;obtain⟨fb0,fb1,fb2,fb3,fb4,fb5,fb6⟩:=zf7 HZ2.out;obtain⟨fc0,fc1,fc2,fc3⟩:=zf4 HT2.out;by_cases g1:u<r
 . have HF:Hid (gtF n k wr0 r st kind key=(st,Tl.no,9)):=zH (Kt (by rw[HRF.out,if_pos (.inl g1)]));have t1:decide ((u:Int)<(r:Int))=true:=by simp;omega
   have t1':decide (u<r)=true:=by simp;omega
   clear g1;obtain⟨qq1,qq2⟩:=zD (A:=w.heap.size+2) (B:=w.heap.size+3) (by omega) HZ2.out HT2.out (.int .i64 (n:Int)) (.int .i64 (k:Int)) (.int .i64 (wr0:Int)) (.int .i64 (r:Int)) (.int .u16 (D:Int)) (.int .i64 (mw:Int)) (.slice ao la ca) (.string ⟨#[]⟩) (.int .i64 0) (.int .i64 0) (.int .i64 0);obtain⟨y0,y1,y2,y3,y4,y5,y6⟩:=zc7 qq1;obtain⟨z0,z1,z2,z3⟩:=zc4 qq2;clear qq1 qq2;have HBZ:=zH (zn (zj HB2.out (show w.heap.size<=w.heap.size+2 by omega) (.int .i64 (n:Int)) (.int .i64 (k:Int)) (.int .i64 (wr0:Int)) (.int .i64 (r:Int)) (.int .u16 (D:Int)) (.int .i64 (mw:Int)) (.slice ao la ca)) (show w.heap.size<=w.heap.size+3 by omega) (.string ⟨#[]⟩) (.int .i64 0) (.int .i64 0) (.int .i64 0));go_wp2_with fail
   refine bodyPost_ret (v:=.tuple #[.agg (shC n k wr0 r D mw (.slice ao la ca)),.agg #[.string ⟨#[]⟩,.int .i64 0,.int .i64 0,.int .i64 0],.int .i64 9]) (by simp[results,Tryz.results48,go_sem,y0,y1,y2,y3,y4,y5,y6,z0,z1,z2,z3];try rfl) rfl ?_;rw[HF.out];exact⟨D,All,ao,ca,by rw[HLA.out,HMW.out];rfl,HSH.out,HR.out.below HBZ.out,HNO.out,.inl rfl,HBZ.out⟩
 have t1:decide ((u:Int)<(r:Int))=false:=by simp;omega
 have t1':decide (u<r)=false:=by simp;omega
 by_cases g2:u<wr0
 . have HF:Hid (gtF n k wr0 r st kind key=(st,Tl.no,9)):=zH (Kt (by rw[HRF.out,if_pos (.inr g2)]));have t2:decide ((u:Int)<(wr0:Int))=true:=by simp;omega
   have t2':decide (u<wr0)=true:=by simp;omega
   clear g1 g2;obtain⟨qq1,qq2⟩:=zD (A:=w.heap.size+2) (B:=w.heap.size+3) (by omega) HZ2.out HT2.out (.int .i64 (n:Int)) (.int .i64 (k:Int)) (.int .i64 (wr0:Int)) (.int .i64 (r:Int)) (.int .u16 (D:Int)) (.int .i64 (mw:Int)) (.slice ao la ca) (.string ⟨#[]⟩) (.int .i64 0) (.int .i64 0) (.int .i64 0);obtain⟨y0,y1,y2,y3,y4,y5,y6⟩:=zc7 qq1;obtain⟨z0,z1,z2,z3⟩:=zc4 qq2;clear qq1 qq2;have HBZ:=zH (zn (zj HB2.out (show w.heap.size<=w.heap.size+2 by omega) (.int .i64 (n:Int)) (.int .i64 (k:Int)) (.int .i64 (wr0:Int)) (.int .i64 (r:Int)) (.int .u16 (D:Int)) (.int .i64 (mw:Int)) (.slice ao la ca)) (show w.heap.size<=w.heap.size+3 by omega) (.string ⟨#[]⟩) (.int .i64 0) (.int .i64 0) (.int .i64 0));go_wp2_with fail
   refine bodyPost_ret (v:=.tuple #[.agg (shC n k wr0 r D mw (.slice ao la ca)),.agg #[.string ⟨#[]⟩,.int .i64 0,.int .i64 0,.int .i64 0],.int .i64 9]) (by simp[results,Tryz.results48,go_sem,y0,y1,y2,y3,y4,y5,y6,z0,z1,z2,z3];try rfl) rfl ?_;rw[HF.out];exact⟨D,All,ao,ca,by rw[HLA.out,HMW.out];rfl,HSH.out,HR.out.below HBZ.out,HNO.out,.inl rfl,HBZ.out⟩
 have t2:decide ((u:Int)<(wr0:Int))=false:=by simp;omega
 have t2':decide (u<wr0)=false:=by simp;omega
 rw[if_neg (show¬(u<r\/u<wr0) by omega)]at HRF;clear g1 g2;obtain⟨gs,hgs⟩:∃gs,w2.heap.size=gs:=⟨_,rfl⟩
 obtain⟨W3,hW3⟩:∃W3,w2.alloc (.cells #[.int .i64 0,.int .i64 0] 68)=W3:=⟨_,rfl⟩
 have HB3:Hid (Below gs w2 W3):=zH (by rw[<-hW3,<-hgs];exact zc _ _);have HH3:Hid (W3.heap[gs]?=some (.cells #[.int .i64 0,.int .i64 0] 68 (0,0))):=zH (by rw[<-hW3,<-hgs];exact heap_alloc_new w2 _);have HGS:=zH hgs;have HW3:=zH hW3;have hsg:w.heap.size+4<=gs:=by rw[<-hgs];exact HS2.out
 clear hW3;go_wp2_with fail
 clear hgs x0 x1 x2 x3 x4 x5 x6 d1 b0 b1 b2 b3 b4 b5 b6 c0 c1 c2 c3 fb0 fb1 fb2 fb3 fb4 fb5 fb6 fc0 fc1 fc2 fc3 t1 t1' t2 t2';rw[HW3.out];go_loopw [9,10,50] (fun vt vf vj wr=>∃(j b1:Nat) (tx1:ByteArray) (f1:Bool),vj=.int .i64 j/\j<=u/\vt=.string tx1/\vf=.bool f1/\Hid ((qS st key U j).foldl (qP n k st key) (0,ByteArray.empty,false)=(b1,tx1,f1))/\Hid (wr.heap[gs]?=some (.cells #[.int .i64 (b1:Int),.int .i64 0] 68 (0,0)))/\Hid (Below gs w2 wr)) (fun _ _ vj _=>u-(intOf vj).toNat)
 case atStart=>exact⟨0,0,ByteArray.empty,false,rfl,by omega,rfl,rfl,zH rfl,HH3,HB3⟩
 case round=>
  clear HB3 HH3;obtain⟨j,b1,tx1,f1,rfl,hj,rfl,rfl,HF,HH,HB⟩:=hrel;obtain⟨wl,rfl⟩:∃wl,wl=wr:=⟨_,rfl⟩
  have HBz:Hid (Below w2.heap.size w2 wl):=zH (by rw[HGS.out];exact HB.out);by_cases hju:j<u
  . obtain⟨i,hi⟩:∃i,U[j]?=some i:=⟨U[j]'(by rw[HUL.out];exact hju),List.getElem?_eq_getElem _⟩
    have hin:=HUM.out i (List.mem_of_getElem? hi);obtain⟨bu,ou,hra,xu⟩:=(HU2.out.below HBz.out) j _ (yN hi);cases hra;have HI:=zH hi;have CK:=zH (vK n k wr0 r D mw ao la ca All i key wl HLA.out hl3 (zH (HR2.out.below HBz.out)));unfold kH at CK;rw[HSH.out.kp i key hin hkey]at CK;have HSN:=zH (pp st key hi);have hl6:=HSH.out.ok.len i key;obtain⟨L,hL⟩:∃L,st.kp i key=L:=⟨_,rfl⟩
    rw[hL]at CK HSN hl6;obtain⟨lk,hlk⟩:∃lk,L.length=lk:=⟨_,rfl⟩
    rw[hlk]at CK hl6;have HLK:=zH hlk;have HGW:Hid (gs<wl.heap.size):=zH (Array.getElem?_eq_some_iff.1 HH.out).1;have HXl:=zH ((HBz.out.block w.heap.size (by rw[HGS.out];omega)).trans HX2.out);have HDl:=zH ((HBz.out.block (w.heap.size+1) (by rw[HGS.out];omega)).trans HD2.out);obtain⟨x0,x1,x2,x3,x4,x5,x6⟩:=zc7 HXl.out;have d1:=zd HDl.out 1;simp only[List.getElem?_toArray,List.getElem?_cons_zero,List.getElem?_cons_succ]at d1;clear HXl HDl;clear hi hL hlk;go_wp2_with fail
    (with_reducible refine CK.out.mono ?_)
    rintro e w3 ⟨ak,ck,rfl,ho3,hb3⟩;have HR3:Hid (Reads w3 ak (zw L)):=zH (zF ho3);have HAK:Hid (∀a,ak=some a->a.block≠gs):=zH (fun q hq=>by have h1:=QB ho3 q hq;have h2:=HGW.out;omega);have HH3:Hid (w3.heap[gs]?=some (.cells #[.int .i64 (b1:Int),.int .i64 0] 68 (0,0))):=zH ((hb3.block gs HGW.out).trans HH.out);have HB3:Hid (Below gs w2 w3):=zH (HB.out.trans (hb3.mono (Nat.le_of_lt HGW.out)));clear ho3 hb3 CK x0 x1 x2 x3 x4 x5 x6 d1 xu;go_wp2_with fail
    go_loopw [9,10,60] (fun vt vf vq wr=>∃(q b2:Nat) (tx2:ByteArray) (f2:Bool),vq=.int .i64 q/\q<=lk/\vt=.string tx2/\vf=.bool f2/\Hid ((qS st key U j++(L.take q).map (·.1)).foldl (qP n k st key) (0,ByteArray.empty,false)=(b2,tx2,f2))/\Hid (wr.heap[gs]?=some (.cells #[.int .i64 (b2:Int),.int .i64 0] 68 (0,0)))/\Hid (Reads wr ak (zw L))/\Hid (Below gs w2 wr)) (fun _ _ vq _=>lk-(intOf vq).toNat)
    case atStart=>exact⟨0,b1,tx1,f1,rfl,by omega,rfl,rfl,zH (by have h1:=HF.out;simpa using h1),HH3,HR3,HB3⟩
    case round=>
     clear HH3 HR3 HB3 HF HH HB HBz HGW;obtain⟨q,b2,tx2,f2,rfl,hq,rfl,rfl,HF,HH,HRq,HB⟩:=hrel;obtain⟨wq,rfl⟩:∃wq,wq=wr:=⟨_,rfl⟩
     have HBz:Hid (Below w2.heap.size w2 wq):=zH (by rw[HGS.out];exact HB.out);by_cases hql:q<lk
     . obtain⟨bk0,ok0,hrk0,z0,z1,z2⟩:=y9 HRq.out (k:=q) (by rw[HLK.out];exact hql);cases hrk0;obtain⟨x,hx⟩:∃x,L[q]'(by rw[HLK.out];exact hql)=x:=⟨_,rfl⟩
       have HX:Hid (L[q]?=some x):=zH (by rw[List.getElem?_eq_getElem (by rw[HLK.out];exact hql),hx]);rw[hx]at z0 z2;obtain⟨a,s⟩:=x;have HFS:Hid ((qS st key U j++(L.take (q+1)).map (·.1)).foldl (qP n k st key) (0,ByteArray.empty,false)=qP n k st key (b2,tx2,f2) a):=zH (by rw[tk1 HX.out,List.map_append,<-List.append_assoc,List.foldl_append,HF.out];rfl);obtain⟨B4,hB4⟩:∃B4,wq.heap.size=B4:=⟨_,rfl⟩
       obtain⟨W4,hW4⟩:∃W4,wq.alloc (.cells #[.int .i64 (a:Int),.int .i64 0,.string s] 106)=W4:=⟨_,rfl⟩
       have hb4:Below wq.heap.size wq W4:=by rw[<-hW4];exact zc _ _
       have n0:W4.cell? ⟨B4,0,none⟩=some (.int .i64 (a:Int)):=by rw[<-hW4,<-hB4];simp[World.cell?_alloc_new]
       have n1:W4.cell? ⟨B4,1,none⟩=some (.int .i64 0):=by rw[<-hW4,<-hB4];simp[World.cell?_alloc_new]
       have HSZ:Hid (B4<W4.heap.size):=zH (by rw[<-hW4,<-hB4];simp);have HH4:Hid (W4.heap[gs]?=some (.cells #[.int .i64 (b2:Int),.int .i64 0] 68 (0,0))):=zH (by rw[<-hW4];exact za _ _ HH.out);have HR4:Hid (Reads W4 (some ⟨bk0,ok0,none⟩) (zw L)):=zH (HRq.out.below hb4);have HB4:Hid (Below w2.heap.size w2 W4):=zH (HBz.out.trans (hb4.mono HBz.out.size));obtain⟨m0,m1⟩:=zc2 HH4.out;clear hx hb4 HH HRq HB HBz HF;cases f2 with
       |true=>
        have CN:=zH (fun W=>jw (a:Int) 0 (b2:Int) 0 W);rw[jx]at CN;by_cases hba:b2<a
        . have hd:decide (b2<a)=true:=decide_eq_true hba;rw[hd]at CN;have HBA:Hid ((((b2,tx2,true):Best)).2.2=false\/b2<a):=zH (.inr hba);clear hba hd;go_wp2_with fail
          (with_reducible refine(CN.out _).mono ?_)
          rintro e w5 ⟨rfl,hb5⟩;have HB5:Hid (Below w2.heap.size w2 w5):=zH (HB4.out.trans (hb5.mono HB4.out.size));have HQ0:Hid (w5.cell? ⟨B4,0,none⟩=some (.int .i64 (a:Int))):=zH ((hb5.cell (p:=⟨B4,0,none⟩) HSZ.out).trans n0);have HQ1:Hid (w5.cell? ⟨B4,1,none⟩=some (.int .i64 0)):=zH ((hb5.cell (p:=⟨B4,1,none⟩) HSZ.out).trans n1);have HQ5:Hid (B4<w5.heap.size):=zH (Nat.lt_of_lt_of_le HSZ.out hb5.size);have HH5:Hid (w5.heap[gs]?=some (.cells #[.int .i64 (b2:Int),.int .i64 0] 68 (0,0))):=zH ((hb5.block gs (Array.getElem?_eq_some_iff.1 HH4.out).1).trans HH4.out);have HR5:Hid (Reads w5 (some ⟨bk0,ok0,none⟩) (zw L)):=zH (HR4.out.below hb5);clear hb5 n0 n1 m0 m1 CN z0 z1 z2 hW4 hB4;have HXl:=zH ((HB5.out.block w.heap.size (by rw[HGS.out];omega)).trans HX2.out);have HDl:=zH ((HB5.out.block (w.heap.size+1) (by rw[HGS.out];omega)).trans HD2.out);obtain⟨x0,x1,x2,x3,x4,x5,x6⟩:=zc7 HXl.out;have d1:=zd HDl.out 1;simp only[List.getElem?_toArray,List.getElem?_cons_zero,List.getElem?_cons_succ]at d1;clear HXl HDl;go_wp2_with (first
           |(at_make;go_loud (refine qh rfl _ _ 22 rfl w5.heap.size 9 _ 16 Tryz.underlying22 Qk rfl _ _ _ _ n (by rfl) (by rfl) rfl rfl (by omega) (by unfold maxLen;omega) (Nat.le_refl _) ?_);intro w6 hown6 hg6)
           |fail)
          clear x0 x1 x2 x3 x4 x5 x6 d1;obtain⟨G,hG⟩:∃G,w5.heap.size=G:=⟨_,rfl⟩
          rw[hG];have HO6:Hid (Own w6 w5.heap.size 9 G n n (fun _=>.string ByteArray.empty)):=zH (by rw[<-hG];rw[hG]at hown6;exact hG ▸ hown6);have HGG:=zH hG;have HB6:Hid (Below w5.heap.size w5 w6):=zH (zQ hg6 (Nat.le_refl _) (fun k hk=>by cases hk));have HG5:Hid (gs<=w5.heap.size):=zH (by rw[<-HGS.out];exact HB5.out.size);clear hown6 hg6 hG;go_wp2_with fail
          go_loopw [78] (fun vq wr=>∃p:Nat,vq=.int .i64 p/\p<=u/\Hid (Own wr w5.heap.size 9 G n n (qC st key a U p))/\Hid (Below w5.heap.size w5 wr)) (fun vq _=>u-(intOf vq).toNat)
          case atStart=>exact⟨0,rfl,by omega,zH (HO6.out.congr fun j _=>by unfold qC;simp),HB6⟩
          case round=>
           clear HO6 HB6;obtain⟨p,rfl,hp,HO,HBp⟩:=hrel;obtain⟨wp,rfl⟩:∃wp,wp=wr:=⟨_,rfl⟩
           have HBg:Hid (Below w2.heap.size w2 wp):=zH (HB5.out.trans (HBp.out.mono (by rw[HGS.out];exact HG5.out)));have HXl:=zH ((HBg.out.block w.heap.size (by rw[HGS.out];omega)).trans HX2.out);have HDl:=zH ((HBg.out.block (w.heap.size+1) (by rw[HGS.out];omega)).trans HD2.out);obtain⟨x0,x1,x2,x3,x4,x5,x6⟩:=zc7 HXl.out;have d1:=zd HDl.out 1;simp only[List.getElem?_toArray,List.getElem?_cons_zero,List.getElem?_cons_succ]at d1;clear HXl HDl;by_cases hpu:p<u
           . obtain⟨i2,hi2⟩:∃i2,U[p]?=some i2:=⟨U[p]'(by rw[HUL.out];exact hpu),List.getElem?_eq_getElem _⟩
             have hin2:=HUM.out i2 (List.mem_of_getElem? hi2);obtain⟨bu,ou,hra,xu⟩:=(HU2.out.below HBg.out) p _ (yN hi2);cases hra;have HI2:=zH hi2;have CK:=zH (vK n k wr0 r D mw ao la ca All i2 key wp HLA.out hl3 (zH (HR2.out.below HBg.out)));unfold kH at CK;rw[HSH.out.kp i2 key hin2 hkey]at CK;have HSR:=zH (HSH.out.ok.srt i2 key);have HTS:=zH (ZF st key a HND.out hi2 (st.kp i2 key));have HTE:=zH (VF st key a hi2);have hl6:=HSH.out.ok.len i2 key;obtain⟨L2,hL2⟩:∃L2,st.kp i2 key=L2:=⟨_,rfl⟩
             rw[hL2]at CK HSR HTS HTE hl6;obtain⟨l2,hl2⟩:∃l2,L2.length=l2:=⟨_,rfl⟩
             rw[hl2]at CK HTE hl6;have HL2:=zH hl2;have hgl:=HO.out.lt;clear hi2 hL2 hl2;go_wp2_with fail
             (with_reducible refine CK.out.mono ?_)
             rintro e w7 ⟨a7,c7,rfl,ho7,hb7⟩;have HR7:Hid (Reads w7 a7 (zw L2)):=zH (zF ho7);have HA7:Hid (∀q,a7=some q->q.block≠G):=zH (fun q hq=>by have h1:=QB ho7 q hq;omega);have HO7:Hid (Own w7 w5.heap.size 9 G n n (qy st key a U p i2 L2 0)):=zH ((HO.out.below hb7).congr fun x _=>HTS.out x);have HB7:Hid (Below w5.heap.size w5 w7):=zH (HBp.out.trans (hb7.mono HBp.out.size));clear ho7 hb7 CK x0 x1 x2 x3 x4 x5 x6 d1 xu;go_wp2_with fail
             go_loopw [88] (fun vq wr=>∃e:Nat,vq=.int .i64 e/\e<=l2/\Hid (Own wr w5.heap.size 9 G n n (qy st key a U p i2 L2 e))/\Hid (Reads wr a7 (zw L2))/\Hid (Below w5.heap.size w5 wr)) (fun vq _=>l2-(intOf vq).toNat)
             case atStart=>exact⟨0,rfl,by omega,HO7,HR7,HB7⟩
             case round=>
              clear HO7 HR7 HB7;obtain⟨e,rfl,he,HOe,HRe,HBe⟩:=hrel;obtain⟨we,rfl⟩:∃we,we=wr:=⟨_,rfl⟩
              by_cases hel:e<l2
              . obtain⟨bk,ok,hrk,z0,z1,z2⟩:=y9 HRe.out (k:=e) (by rw[HL2.out];exact hel);cases hrk;obtain⟨x,hx⟩:∃x,L2[e]'(by rw[HL2.out];exact hel)=x:=⟨_,rfl⟩
                have HX:Hid (L2[e]?=some x):=zH (by rw[List.getElem?_eq_getElem (by rw[HL2.out];exact hel),hx]);rw[hx]at z0 z2;obtain⟨a2,s2⟩:=x;obtain⟨W8,hW8⟩:∃W8,we.alloc (.cells #[.int .i64 (a2:Int),.int .i64 0,.string s2] 106)=W8:=⟨_,rfl⟩
                have hb8:Below we.heap.size we W8:=by rw[<-hW8];exact zc _ _
                have n0:W8.cell? ⟨we.heap.size,0,none⟩=some (.int .i64 (a2:Int)):=by rw[<-hW8];simp[World.cell?_alloc_new]
                have n1:W8.cell? ⟨we.heap.size,1,none⟩=some (.int .i64 0):=by rw[<-hW8];simp[World.cell?_alloc_new]
                have n2:W8.cell? ⟨we.heap.size,2,none⟩=some (.string s2):=by rw[<-hW8];simp[World.cell?_alloc_new]
                have HO8:Hid (Own W8 w5.heap.size 9 G n n (qy st key a U p i2 L2 e)):=zH (HOe.out.below hb8);have HR8:Hid (Reads W8 (some ⟨bk,ok,none⟩) (zw L2)):=zH (HRe.out.below hb8);have HB8:Hid (Below w5.heap.size w5 W8):=zH (HBe.out.trans (hb8.mono HBe.out.size));have q0:=(HB8.out.cell (p:=⟨B4,0,none⟩) HQ5.out).trans HQ0.out;have q1:=(HB8.out.cell (p:=⟨B4,1,none⟩) HQ5.out).trans HQ1.out;have pc:=HO8.out.cell hin2;have pf:=HO8.out.frozen i2;have i0:(0:Int)<=(i2:Int):=by omega
                have i1:(i2:Int)<(n:Int):=by omega
                clear hx hb8;by_cases hae:a2=a
                . have e1:((a2:Int)==(a:Int))=true:=by simp;omega
                  have HST:Hid (∀x,(if x=i2 then Value.string s2 else qy st key a U p i2 L2 e x)=qy st key a U p i2 L2 (e+1) x):=zH (VG st key a U p i2 L2 e s2 (by have h1:=JE HSR.out HX.out;rw[show((a2,s2):Kp).1=a from hae]at h1;exact h1));clear hae;go_wp2_with fail
                  clear hW8;have A9:=HO8.out.store i2 (.string s2);have HO9:Hid (Own (W8.setCell ⟨G,i2,none⟩ (.string s2)) w5.heap.size 9 G n n (qy st key a U p i2 L2 (e+1))):=zH (A9.1.congr fun x _=>HST.out x);have HR9:Hid (Reads (W8.setCell ⟨G,i2,none⟩ (.string s2)) (some ⟨bk,ok,none⟩) (zw L2)):=zH (yU HR8.out HA7.out);have HB9:Hid (Below w5.heap.size w5 (W8.setCell ⟨G,i2,none⟩ (.string s2))):=zH (zk HB8.out HO8.out.lt.1 _);clear A9;go_wp2_with fail
                  go_roundw
                  case rel=>exact⟨e+1,by go_num,by omega,HO9,HR9,HB9⟩
                  case measure=>simp[intOf];omega
                . have e1:((a2:Int)==(a:Int))=false:=by simp;omega
                  have HO9:Hid (Own W8 w5.heap.size 9 G n n (qy st key a U p i2 L2 (e+1))):=zH (HO8.out.congr fun x _=>Y6 st key a U p i2 L2 e (VE HX.out hae) x);clear hae;go_wp2_with fail
                  clear hW8
                  go_roundw
                  case rel=>exact⟨e+1,by go_num,by omega,HO9,HR8,HB8⟩
                  case measure=>simp[intOf];omega
              . obtain rfl:l2=e:=by omega
                have HO9:Hid (Own we w5.heap.size 9 G n n (qC st key a U (p+1))):=zH (HOe.out.congr fun x _=>HTE.out x);go_wp2_with fail
                go_roundw
                case rel=>exact⟨p+1,by go_num,by omega,HO9,HBe⟩
                case measure=>simp[intOf];omega
           . obtain rfl:u=p:=by omega
             have CJ:=zH (YC (kv n st key a) n (some ⟨G,0,none⟩) n (k:Int) wp ⟨pz _ _ _ _,by omega,fun s hs=>by
              unfold kv qD at hs;obtain⟨x,_,rfl⟩:=List.mem_map.1 hs;cases st.dn x with
              |true=>simp
              |false=>
               have:=pw (l:=st.kp x key) (a:=a) (m:=65) (fun y hy=>(HSH.out.ok.rng x key y hy).2.2.2);show(vu (st.kp x key) a).size<=_;omega,by rw[<-HDONE.out a];exact HO.out.reads⟩)
             unfold jq at CJ;go_wp2_with fail
             (with_reducible refine CJ.out.mono ?_)
             rintro e w10 ⟨S10,E10,hJ,rfl,hb10⟩;have HJ:=zH hJ;have HB510:Hid (Below w5.heap.size w5 w10):=zH (HBp.out.trans (hb10.mono HBp.out.size));have HH10:Hid (w10.heap[gs]?=some (.cells #[.int .i64 (b2:Int),.int .i64 0] 68 (0,0))):=zH ((HB510.out.block gs (Array.getElem?_eq_some_iff.1 HH5.out).1).trans HH5.out);have HB10:Hid (Below gs w2 w10):=zH (by have h1:=HB5.out.trans (HB510.out.mono (by rw[HGS.out];exact HG5.out));rw[HGS.out]at h1;exact h1);have HR10:Hid (Reads w10 (some ⟨bk0,ok0,none⟩) (zw L)):=zH (HR5.out.below HB510.out);have q0:=(HB510.out.cell (p:=⟨B4,0,none⟩) HQ5.out).trans HQ0.out;have q1:=(HB510.out.cell (p:=⟨B4,1,none⟩) HQ5.out).trans HQ1.out;clear hb10 hJ CJ x0 x1 x2 x3 x4 x5 x6 d1;by_cases hE:E10=0
             . subst hE;have HFn:Hid ((qS st key U j++(L.take (q+1)).map (·.1)).foldl (qP n k st key) (0,ByteArray.empty,false)=(a,S10,true)):=zH (by rw[HFS.out];exact Ql HBA.out HJ.out);obtain⟨m0,m1⟩:=zc2 HH10.out;obtain⟨fr0,fr1⟩:=zf2 HH10.out;have HHn:Hid (((w10.setCell ⟨gs,0,none⟩ (.int .i64 (a:Int))).setCell ⟨gs,1,none⟩ (.int .i64 0)).heap[gs]?=some (.cells #[.int .i64 (a:Int),.int .i64 0] 68 (0,0))):=zH (by rw[heap_set _ (heap_set _ HH10.out)];rfl);have HBn:Hid (Below gs w2 ((w10.setCell ⟨gs,0,none⟩ (.int .i64 (a:Int))).setCell ⟨gs,1,none⟩ (.int .i64 0))):=zH (zk (zk HB10.out (Nat.le_refl _) _) (Nat.le_refl _) _);have HRn:Hid (Reads ((w10.setCell ⟨gs,0,none⟩ (.int .i64 (a:Int))).setCell ⟨gs,1,none⟩ (.int .i64 0)) (some ⟨bk0,ok0,none⟩) (zw L)):=zH (yU (yU HR10.out HAK.out) HAK.out);go_wp2_with fail
               go_roundw
               case rel=>exact⟨q+1,a,S10,true,by go_num,by omega,rfl,rfl,HFn,HHn,HRn,HBn⟩
               case measure=>simp[intOf];omega
             . have t0:((E10:Int)==0)=false:=by simp;omega
               have HFn:Hid ((qS st key U j++(L.take (q+1)).map (·.1)).foldl (qP n k st key) (0,ByteArray.empty,false)=(b2,tx2,true)):=zH (by rw[HFS.out];exact Yh hE HJ.out);clear hE;go_wp2_with fail
               go_roundw
               case rel=>exact⟨q+1,b2,tx2,true,by go_num,by omega,rfl,rfl,HFn,HH10,HR10,HB10⟩
               case measure=>simp[intOf];omega
        . have hd:decide (b2<a)=false:=decide_eq_false hba;rw[hd]at CN;have HFn:Hid ((qS st key U j++(L.take (q+1)).map (·.1)).foldl (qP n k st key) (0,ByteArray.empty,false)=(b2,tx2,true)):=zH (by rw[HFS.out];exact K6 hba);clear hba hd;go_wp2_with fail
          (with_reducible refine(CN.out _).mono ?_)
          rintro e w5 ⟨rfl,hb5⟩;have HH5:Hid (w5.heap[gs]?=some (.cells #[.int .i64 (b2:Int),.int .i64 0] 68 (0,0))):=zH ((hb5.block gs (Array.getElem?_eq_some_iff.1 HH4.out).1).trans HH4.out);have HR5:Hid (Reads w5 (some ⟨bk0,ok0,none⟩) (zw L)):=zH (HR4.out.below hb5);have HB5:Hid (Below gs w2 w5):=zH (by have h1:=HB4.out.trans (hb5.mono HB4.out.size);rw[HGS.out]at h1;exact h1);clear hb5 n0 n1 m0 m1 CN z0 z1 z2 hW4 hB4;go_wp2_with fail
          go_roundw
          case rel=>exact⟨q+1,b2,tx2,true,by go_num,by omega,rfl,rfl,HFn,HH5,HR5,HB5⟩
          case measure=>simp[intOf];omega
       |false=>
        have HBA:Hid ((((b2,tx2,false):Best)).2.2=false\/b2<a):=zH (.inl rfl);obtain⟨w5,rfl⟩:∃w5,w5=W4:=⟨_,rfl⟩
        have HB5:=HB4;have HQ0:=zH n0;have HQ1:=zH n1;have HQ5:=HSZ;have HH5:=HH4;have HR5:=HR4;clear m0 m1;have HXl:=zH ((HB5.out.block w.heap.size (by rw[HGS.out];omega)).trans HX2.out);have HDl:=zH ((HB5.out.block (w.heap.size+1) (by rw[HGS.out];omega)).trans HD2.out);obtain⟨x0,x1,x2,x3,x4,x5,x6⟩:=zc7 HXl.out;have d1:=zd HDl.out 1;simp only[List.getElem?_toArray,List.getElem?_cons_zero,List.getElem?_cons_succ]at d1;clear HXl HDl;go_wp2_with (first
         |(at_make;go_loud (refine qh rfl _ _ 22 rfl w5.heap.size 9 _ 16 Tryz.underlying22 Qk rfl _ _ _ _ n (by rfl) (by rfl) rfl rfl (by omega) (by unfold maxLen;omega) (Nat.le_refl _) ?_);intro w6 hown6 hg6)
         |fail)
        try clear hW4
        clear x0 x1 x2 x3 x4 x5 x6 d1;obtain⟨G,hG⟩:∃G,w5.heap.size=G:=⟨_,rfl⟩
        rw[hG];have HO6:Hid (Own w6 w5.heap.size 9 G n n (fun _=>.string ByteArray.empty)):=zH (by rw[<-hG];rw[hG]at hown6;exact hG ▸ hown6);have HGG:=zH hG;have HB6:Hid (Below w5.heap.size w5 w6):=zH (zQ hg6 (Nat.le_refl _) (fun k hk=>by cases hk));have HG5:Hid (gs<=w5.heap.size):=zH (by rw[<-HGS.out];exact HB5.out.size);clear hown6 hg6 hG;go_wp2_with fail
        go_loopw [78] (fun vq wr=>∃p:Nat,vq=.int .i64 p/\p<=u/\Hid (Own wr w5.heap.size 9 G n n (qC st key a U p))/\Hid (Below w5.heap.size w5 wr)) (fun vq _=>u-(intOf vq).toNat)
        case atStart=>exact⟨0,rfl,by omega,zH (HO6.out.congr fun j _=>by unfold qC;simp),HB6⟩
        case round=>
         clear HO6 HB6;obtain⟨p,rfl,hp,HO,HBp⟩:=hrel;obtain⟨wp,rfl⟩:∃wp,wp=wr:=⟨_,rfl⟩
         have HBg:Hid (Below w2.heap.size w2 wp):=zH (HB5.out.trans (HBp.out.mono (by rw[HGS.out];exact HG5.out)));have HXl:=zH ((HBg.out.block w.heap.size (by rw[HGS.out];omega)).trans HX2.out);have HDl:=zH ((HBg.out.block (w.heap.size+1) (by rw[HGS.out];omega)).trans HD2.out);obtain⟨x0,x1,x2,x3,x4,x5,x6⟩:=zc7 HXl.out;have d1:=zd HDl.out 1;simp only[List.getElem?_toArray,List.getElem?_cons_zero,List.getElem?_cons_succ]at d1;clear HXl HDl;by_cases hpu:p<u
         . obtain⟨i2,hi2⟩:∃i2,U[p]?=some i2:=⟨U[p]'(by rw[HUL.out];exact hpu),List.getElem?_eq_getElem _⟩
           have hin2:=HUM.out i2 (List.mem_of_getElem? hi2);obtain⟨bu,ou,hra,xu⟩:=(HU2.out.below HBg.out) p _ (yN hi2);cases hra;have HI2:=zH hi2;have CK:=zH (vK n k wr0 r D mw ao la ca All i2 key wp HLA.out hl3 (zH (HR2.out.below HBg.out)));unfold kH at CK;rw[HSH.out.kp i2 key hin2 hkey]at CK;have HSR:=zH (HSH.out.ok.srt i2 key);have HTS:=zH (ZF st key a HND.out hi2 (st.kp i2 key));have HTE:=zH (VF st key a hi2);have hl6:=HSH.out.ok.len i2 key;obtain⟨L2,hL2⟩:∃L2,st.kp i2 key=L2:=⟨_,rfl⟩
           rw[hL2]at CK HSR HTS HTE hl6;obtain⟨l2,hl2⟩:∃l2,L2.length=l2:=⟨_,rfl⟩
           rw[hl2]at CK HTE hl6;have HL2:=zH hl2;have hgl:=HO.out.lt;clear hi2 hL2 hl2;go_wp2_with fail
           (with_reducible refine CK.out.mono ?_)
           rintro e w7 ⟨a7,c7,rfl,ho7,hb7⟩;have HR7:Hid (Reads w7 a7 (zw L2)):=zH (zF ho7);have HA7:Hid (∀q,a7=some q->q.block≠G):=zH (fun q hq=>by have h1:=QB ho7 q hq;omega);have HO7:Hid (Own w7 w5.heap.size 9 G n n (qy st key a U p i2 L2 0)):=zH ((HO.out.below hb7).congr fun x _=>HTS.out x);have HB7:Hid (Below w5.heap.size w5 w7):=zH (HBp.out.trans (hb7.mono HBp.out.size));clear ho7 hb7 CK x0 x1 x2 x3 x4 x5 x6 d1 xu;go_wp2_with fail
           go_loopw [88] (fun vq wr=>∃e:Nat,vq=.int .i64 e/\e<=l2/\Hid (Own wr w5.heap.size 9 G n n (qy st key a U p i2 L2 e))/\Hid (Reads wr a7 (zw L2))/\Hid (Below w5.heap.size w5 wr)) (fun vq _=>l2-(intOf vq).toNat)
           case atStart=>exact⟨0,rfl,by omega,HO7,HR7,HB7⟩
           case round=>
            clear HO7 HR7 HB7;obtain⟨e,rfl,he,HOe,HRe,HBe⟩:=hrel;obtain⟨we,rfl⟩:∃we,we=wr:=⟨_,rfl⟩
            by_cases hel:e<l2
            . obtain⟨bk,ok,hrk,z0,z1,z2⟩:=y9 HRe.out (k:=e) (by rw[HL2.out];exact hel);cases hrk;obtain⟨x,hx⟩:∃x,L2[e]'(by rw[HL2.out];exact hel)=x:=⟨_,rfl⟩
              have HX:Hid (L2[e]?=some x):=zH (by rw[List.getElem?_eq_getElem (by rw[HL2.out];exact hel),hx]);rw[hx]at z0 z2;obtain⟨a2,s2⟩:=x;obtain⟨W8,hW8⟩:∃W8,we.alloc (.cells #[.int .i64 (a2:Int),.int .i64 0,.string s2] 106)=W8:=⟨_,rfl⟩
              have hb8:Below we.heap.size we W8:=by rw[<-hW8];exact zc _ _
              have n0:W8.cell? ⟨we.heap.size,0,none⟩=some (.int .i64 (a2:Int)):=by rw[<-hW8];simp[World.cell?_alloc_new]
              have n1:W8.cell? ⟨we.heap.size,1,none⟩=some (.int .i64 0):=by rw[<-hW8];simp[World.cell?_alloc_new]
              have n2:W8.cell? ⟨we.heap.size,2,none⟩=some (.string s2):=by rw[<-hW8];simp[World.cell?_alloc_new]
              have HO8:Hid (Own W8 w5.heap.size 9 G n n (qy st key a U p i2 L2 e)):=zH (HOe.out.below hb8);have HR8:Hid (Reads W8 (some ⟨bk,ok,none⟩) (zw L2)):=zH (HRe.out.below hb8);have HB8:Hid (Below w5.heap.size w5 W8):=zH (HBe.out.trans (hb8.mono HBe.out.size));have q0:=(HB8.out.cell (p:=⟨B4,0,none⟩) HQ5.out).trans HQ0.out;have q1:=(HB8.out.cell (p:=⟨B4,1,none⟩) HQ5.out).trans HQ1.out;have pc:=HO8.out.cell hin2;have pf:=HO8.out.frozen i2;have i0:(0:Int)<=(i2:Int):=by omega
              have i1:(i2:Int)<(n:Int):=by omega
              clear hx hb8;by_cases hae:a2=a
              . have e1:((a2:Int)==(a:Int))=true:=by simp;omega
                have HST:Hid (∀x,(if x=i2 then Value.string s2 else qy st key a U p i2 L2 e x)=qy st key a U p i2 L2 (e+1) x):=zH (VG st key a U p i2 L2 e s2 (by have h1:=JE HSR.out HX.out;rw[show((a2,s2):Kp).1=a from hae]at h1;exact h1));clear hae;go_wp2_with fail
                clear hW8;have A9:=HO8.out.store i2 (.string s2);have HO9:Hid (Own (W8.setCell ⟨G,i2,none⟩ (.string s2)) w5.heap.size 9 G n n (qy st key a U p i2 L2 (e+1))):=zH (A9.1.congr fun x _=>HST.out x);have HR9:Hid (Reads (W8.setCell ⟨G,i2,none⟩ (.string s2)) (some ⟨bk,ok,none⟩) (zw L2)):=zH (yU HR8.out HA7.out);have HB9:Hid (Below w5.heap.size w5 (W8.setCell ⟨G,i2,none⟩ (.string s2))):=zH (zk HB8.out HO8.out.lt.1 _);clear A9;go_wp2_with fail
                go_roundw
                case rel=>exact⟨e+1,by go_num,by omega,HO9,HR9,HB9⟩
                case measure=>simp[intOf];omega
              . have e1:((a2:Int)==(a:Int))=false:=by simp;omega
                have HO9:Hid (Own W8 w5.heap.size 9 G n n (qy st key a U p i2 L2 (e+1))):=zH (HO8.out.congr fun x _=>Y6 st key a U p i2 L2 e (VE HX.out hae) x);clear hae;go_wp2_with fail
                clear hW8
                go_roundw
                case rel=>exact⟨e+1,by go_num,by omega,HO9,HR8,HB8⟩
                case measure=>simp[intOf];omega
            . obtain rfl:l2=e:=by omega
              have HO9:Hid (Own we w5.heap.size 9 G n n (qC st key a U (p+1))):=zH (HOe.out.congr fun x _=>HTE.out x);go_wp2_with fail
              go_roundw
              case rel=>exact⟨p+1,by go_num,by omega,HO9,HBe⟩
              case measure=>simp[intOf];omega
         . obtain rfl:u=p:=by omega
           have CJ:=zH (YC (kv n st key a) n (some ⟨G,0,none⟩) n (k:Int) wp ⟨pz _ _ _ _,by omega,fun s hs=>by
            unfold kv qD at hs;obtain⟨x,_,rfl⟩:=List.mem_map.1 hs;cases st.dn x with
            |true=>simp
            |false=>
             have:=pw (l:=st.kp x key) (a:=a) (m:=65) (fun y hy=>(HSH.out.ok.rng x key y hy).2.2.2);show(vu (st.kp x key) a).size<=_;omega,by rw[<-HDONE.out a];exact HO.out.reads⟩)
           unfold jq at CJ;go_wp2_with fail
           (with_reducible refine CJ.out.mono ?_)
           rintro e w10 ⟨S10,E10,hJ,rfl,hb10⟩;have HJ:=zH hJ;have HB510:Hid (Below w5.heap.size w5 w10):=zH (HBp.out.trans (hb10.mono HBp.out.size));have HH10:Hid (w10.heap[gs]?=some (.cells #[.int .i64 (b2:Int),.int .i64 0] 68 (0,0))):=zH ((HB510.out.block gs (Array.getElem?_eq_some_iff.1 HH5.out).1).trans HH5.out);have HB10:Hid (Below gs w2 w10):=zH (by have h1:=HB5.out.trans (HB510.out.mono (by rw[HGS.out];exact HG5.out));rw[HGS.out]at h1;exact h1);have HR10:Hid (Reads w10 (some ⟨bk0,ok0,none⟩) (zw L)):=zH (HR5.out.below HB510.out);have q0:=(HB510.out.cell (p:=⟨B4,0,none⟩) HQ5.out).trans HQ0.out;have q1:=(HB510.out.cell (p:=⟨B4,1,none⟩) HQ5.out).trans HQ1.out;clear hb10 hJ CJ x0 x1 x2 x3 x4 x5 x6 d1;by_cases hE:E10=0
           . subst hE;have HFn:Hid ((qS st key U j++(L.take (q+1)).map (·.1)).foldl (qP n k st key) (0,ByteArray.empty,false)=(a,S10,true)):=zH (by rw[HFS.out];exact Ql (.inl rfl) HJ.out);obtain⟨m0,m1⟩:=zc2 HH10.out;obtain⟨fr0,fr1⟩:=zf2 HH10.out;have HHn:Hid (((w10.setCell ⟨gs,0,none⟩ (.int .i64 (a:Int))).setCell ⟨gs,1,none⟩ (.int .i64 0)).heap[gs]?=some (.cells #[.int .i64 (a:Int),.int .i64 0] 68 (0,0))):=zH (by rw[heap_set _ (heap_set _ HH10.out)];rfl);have HBn:Hid (Below gs w2 ((w10.setCell ⟨gs,0,none⟩ (.int .i64 (a:Int))).setCell ⟨gs,1,none⟩ (.int .i64 0))):=zH (zk (zk HB10.out (Nat.le_refl _) _) (Nat.le_refl _) _);have HRn:Hid (Reads ((w10.setCell ⟨gs,0,none⟩ (.int .i64 (a:Int))).setCell ⟨gs,1,none⟩ (.int .i64 0)) (some ⟨bk0,ok0,none⟩) (zw L)):=zH (yU (yU HR10.out HAK.out) HAK.out);go_wp2_with fail
             go_roundw
             case rel=>exact⟨q+1,a,S10,true,by go_num,by omega,rfl,rfl,HFn,HHn,HRn,HBn⟩
             case measure=>simp[intOf];omega
           . have t0:((E10:Int)==0)=false:=by simp;omega
             have HFn:Hid ((qS st key U j++(L.take (q+1)).map (·.1)).foldl (qP n k st key) (0,ByteArray.empty,false)=(b2,tx2,false)):=zH (by rw[HFS.out];exact Yh hE HJ.out);clear hE;go_wp2_with fail
             go_roundw
             case rel=>exact⟨q+1,b2,tx2,false,by go_num,by omega,rfl,rfl,HFn,HH10,HR10,HB10⟩
             case measure=>simp[intOf];omega
     . obtain rfl:lk=q:=by omega
       have HFn:Hid ((qS st key U (j+1)).foldl (qP n k st key) (0,ByteArray.empty,false)=(b2,tx2,f2)):=zH (by
        rw[HSN.out,<-HF.out,List.take_of_length_le (by rw[HLK.out];exact Nat.le_refl _)])
       go_wp2_with fail
       go_roundw
       case rel=>exact⟨j+1,b2,tx2,f2,by go_num,by omega,rfl,rfl,HFn,HH,HB⟩
       case measure=>simp[intOf];omega
  . obtain rfl:u=j:=by omega
    have HN:Hid (newest n k st key=(b1,tx1,f1)):=zH (by rw[HNW.out,HF.out]);have HBw:Hid (Below w.heap.size w wl):=zH (HB2.out.trans (HBz.out.mono HB2.out.size));have HXe:=zH ((HBz.out.block w.heap.size (by rw[HGS.out];omega)).trans HX2.out);have HDe:=zH ((HBz.out.block (w.heap.size+1) (by rw[HGS.out];omega)).trans HD2.out);have HZe:=zH ((HBz.out.block (w.heap.size+2) (by rw[HGS.out];omega)).trans HZ2.out);have HTe:=zH ((HBz.out.block (w.heap.size+3) (by rw[HGS.out];omega)).trans HT2.out);have hgw:gs<wl.heap.size:=(Array.getElem?_eq_some_iff.1 HH.out).1;cases f1 with
    |false=>
     have HFE:Hid (gtF n k wr0 r st kind key=(st,Tl.no,4)):=zH (Kt (by rw[HRF.out,HN.out];exact if_pos rfl));obtain⟨x0,x1,x2,x3,x4,x5,x6⟩:=zc7 HXe.out;have d1:=zd HDe.out 1;obtain⟨b0,b1,b2,b3,b4,b5,b6⟩:=zc7 HZe.out;obtain⟨c0,c1,c2,c3⟩:=zc4 HTe.out;simp only[List.getElem?_toArray,List.getElem?_cons_zero,List.getElem?_cons_succ]at d1;obtain⟨fb0,fb1,fb2,fb3,fb4,fb5,fb6⟩:=zf7 HZe.out;obtain⟨fc0,fc1,fc2,fc3⟩:=zf4 HTe.out;obtain⟨qq1,qq2⟩:=zD (A:=w.heap.size+2) (B:=w.heap.size+3) (by omega) HZe.out HTe.out (.int .i64 (n:Int)) (.int .i64 (k:Int)) (.int .i64 (wr0:Int)) (.int .i64 (r:Int)) (.int .u16 (D:Int)) (.int .i64 (mw:Int)) (.slice ao la ca) (.string ⟨#[]⟩) (.int .i64 0) (.int .i64 0) (.int .i64 0);obtain⟨y0,y1,y2,y3,y4,y5,y6⟩:=zc7 qq1;obtain⟨z0,z1,z2,z3⟩:=zc4 qq2;clear qq1 qq2;have HBZ:=zH (zn (zj HBw.out (show w.heap.size<=w.heap.size+2 by omega) (.int .i64 (n:Int)) (.int .i64 (k:Int)) (.int .i64 (wr0:Int)) (.int .i64 (r:Int)) (.int .u16 (D:Int)) (.int .i64 (mw:Int)) (.slice ao la ca)) (show w.heap.size<=w.heap.size+3 by omega) (.string ⟨#[]⟩) (.int .i64 0) (.int .i64 0) (.int .i64 0));go_wp2_with fail
     refine bodyPost_ret (v:=.tuple #[.agg (shC n k wr0 r D mw (.slice ao la ca)),.agg #[.string ⟨#[]⟩,.int .i64 0,.int .i64 0,.int .i64 0],.int .i64 4]) (by simp[results,Tryz.results48,go_sem,y0,y1,y2,y3,y4,y5,y6,z0,z1,z2,z3];try rfl) rfl ?_;rw[HFE.out];exact⟨D,All,ao,ca,by rw[HLA.out,HMW.out];rfl,HSH.out,HR.out.below HBZ.out,HNO.out,.inl rfl,HBZ.out⟩
    |true=>
     have hN1:=Vp (n:=n) (k:=k) (key:=key) HSH.out.ok (by rw[HN.out]);have hT1:=j8 (n:=n) (k:=k) (st:=st) (key:=key) hk1;rw[HN.out]at hN1 hT1;have hA1:1<=b1:=hN1.1;have HA2:Hid (b1<=st.wr):=zH hN1.2;have HT60:Hid (tx1.size<=60):=zH hT1;clear hN1 hT1;have CS:=zH (fun W=>jf tx1 k n W HT60.out hk1 hkn hn);unfold kg at CS;obtain⟨x0,x1⟩:=zc2 HXe.out;have HGW:=zH hgw;clear hgw;go_wp2_with fail
     (with_reducible refine(CS.out _).mono ?_)
     rintro e w4 ⟨ap,cp,rfl,hRp,hb4⟩;have HRP:Hid (Reads w4 ap (zX n fun j=>.string (pcs tx1 k j))):=zH hRp;obtain⟨z,hz⟩:∃z,w4.heap.size=z:=⟨_,rfl⟩
     have HZS:=zH hz;have hsz:gs<z:=by have:=hb4.size;have:=HGW.out;omega
     have HB4w:Hid (Below w.heap.size w w4):=zH (HBw.out.trans (hb4.mono HBw.out.size));have HX4:=zH ((hb4.block w.heap.size (by have:=HGW.out;omega)).trans HXe.out);have HD4:=zH ((hb4.block (w.heap.size+1) (by have:=HGW.out;omega)).trans HDe.out);have HZ4:=zH ((hb4.block (w.heap.size+2) (by have:=HGW.out;omega)).trans HZe.out);have HT4:=zH ((hb4.block (w.heap.size+3) (by have:=HGW.out;omega)).trans HTe.out);have HH4:=zH ((hb4.block gs HGW.out).trans HH.out);have HU4:Hid (Reads w4 ao2 (zZ U)):=zH ((HU2.out.below HBz.out).below hb4);have HR4:Hid (Reads w4 ao (ze All)):=zH ((HR2.out.below HBz.out).below hb4);have HAP:Hid (∀a,ap=some a->a.block≠w.heap.size):=zH (by
      intro a ha he;obtain⟨b,o,hb,hc⟩:=hRp 0 _ (zG _ (show 0<n by omega));rw[ha]at hb;cases hb;simp only at he;rw[he]at hc;exact zeP HX4.out hc)
     clear hRp hb4 hz CS x0 x1 HXe HDe HZe HTe HH HB HBz;go_wp2_with fail
     go_loopw [23,133] (fun vm vj wr=>∃(j mn ll:Nat) (al:Option Addr) (cl:Nat),vj=.int .i64 j/\j<=u/\vm=.int .i64 mn/\mn<=j/\Hid (((U.take j).foldl (jo k tx1 b1 key) All).length=ll)/\Hid (((U.take j).foldl (qw k tx1 b1 key) (st,0)).2=mn)/\Hid (Reads wr al (ze ((U.take j).foldl (jo k tx1 b1 key) All)))/\Hid (al=none->ll=0/\cl=0)/\Hid ((al=ao/\((U.take j).foldl (jo k tx1 b1 key) All)=All)\/∀a,al=some a->z<=a.block/\a.block<wr.heap.size)/\Hid (wr.heap[w.heap.size]?=some (.cells (shC n k wr0 r D mw (.slice al ll cl)) 41 (0,0)))/\Hid (Kept (AvB w.heap.size z) w.heap.size w4 wr)) (fun _ vj _=>u-(intOf vj).toNat)
     case atStart=>exact⟨0,0,la,ao,ca,rfl,by omega,rfl,by omega,HLA,zH rfl,HR4,zH (by have h1:=HNO.out;rw[HLA.out]at h1;exact h1),zH (.inl ⟨rfl,rfl⟩),HX4,zH (Kept.refl _ _ _)⟩
     case round=>
      obtain⟨j,mn,ll,al,cl,rfl,hj,rfl,hmn,HLL,HPM,HRl,HNl,HBl,HX,HKq⟩:=hrel;obtain⟨wq,rfl⟩:∃wq,wq=wr:=⟨_,rfl⟩
      have HSJ:Hid (Shl n D ((U.take j).foldl (jo k tx1 b1 key) All) ((U.take j).foldl (qw k tx1 b1 key) (st,0)).1):=zH (Shl.fixes HT60.out hk1 hkey hA1 (U.take j) (fun q hq=>HUM.out q (List.mem_of_mem_take hq)) All (st,0) HSH.out HA2.out);have hzq:z<=wq.heap.size:=by rw[<-HZS.out];exact HKq.out.bel.size
      by_cases hju:j<u
      . obtain⟨i,hi⟩:∃i,U[j]?=some i:=⟨U[j]'(by rw[HUL.out];exact hju),List.getElem?_eq_getElem _⟩
        have hin:=HUM.out i (List.mem_of_getElem? hi);obtain⟨bu,ou,hra,xu⟩:=(vM HKq.out HZS.out HU4.out HAU.out) j _ (yN hi);cases hra;obtain⟨bp,op,hrp,xp⟩:=(vM HKq.out HZS.out HRP.out HAP.out) i _ (zG _ hin);cases hrp;have hll3:ll<=30000000:=by rw[<-HLL.out];exact HSJ.out.len hn
        have HFJN:Hid ((U.take (j+1)).foldl (jo k tx1 b1 key) All=jo k tx1 b1 key ((U.take j).foldl (jo k tx1 b1 key) All) i):=zH (by rw[qF hi,List.foldl_append];rfl);have HPJ:Hid (((U.take (j+1)).foldl (qw k tx1 b1 key) (st,0)).2=((U.take j).foldl (qw k tx1 b1 key) (st,0)).2+if Qx (((U.take j).foldl (qw k tx1 b1 key) (st,0)).1.kp i key) b1 (pcs tx1 k i) then 0 else 1):=zH (by rw[qF hi,List.foldl_append];rfl);have HFN:=zH (zeQ k tx1 b1 key ((U.take j).foldl (jo k tx1 b1 key) All) i);have CK:=zH (vK n k wr0 r D mw al ll cl ((U.take j).foldl (jo k tx1 b1 key) All) i key wq HLL.out hll3 (zH HRl.out));unfold kH at CK;rw[HSJ.out.kp i key hin hkey]at CK HFN;have hl6:=HSJ.out.ok.len i key;obtain⟨LK,hLK⟩:∃LK,((U.take j).foldl (qw k tx1 b1 key) (st,0)).1.kp i key=LK:=⟨_,rfl⟩
        rw[hLK]at CK hl6 HPJ HFN;obtain⟨lk,hlk⟩:∃lk,LK.length=lk:=⟨_,rfl⟩
        rw[hlk]at CK hl6;obtain⟨PC,hPC⟩:∃PC,pcs tx1 k i=PC:=⟨_,rfl⟩
        rw[hPC]at HPJ HFN xp;obtain⟨FJ,hFJ⟩:∃FJ,((U.take j).foldl (jo k tx1 b1 key) All)=FJ:=⟨_,rfl⟩
        rw[hFJ]at HLL HRl HBl HFJN HFN;obtain⟨FJN,hFJN⟩:∃FJN,jo k tx1 b1 key FJ i=FJN:=⟨_,rfl⟩
        rw[hFJN]at HFJN HFN;obtain⟨BASE,hBASE⟩:∃BASE,yw (atB i key) FJ++[(i,key,b1,PC)]=BASE:=⟨_,rfl⟩
        rw[hBASE]at HFN;have hlo:∃lo,(yw (atB i key) FJ).length=lo:=⟨_,rfl⟩
        obtain⟨lo,hlo⟩:=hlo;have hlo3:lo<=30000000:=by have h1:=VU (atB i key) FJ;rw[hlo,HLL.out]at h1;omega
        have HLO:=zH hlo;have HBE:=zH hBASE;have HBL:Hid (BASE.length=lo+1):=zH (by rw[<-hBASE,List.length_append,hlo];rfl);have hm1:Hid (lo+1<=maxLen):=zH (by unfold maxLen;omega);have hm2:Hid ((lo+1)*48<=140737488355328):=zH (by omega);obtain⟨B,hB⟩:∃B,Qx LK b1 PC=B:=⟨_,rfl⟩
        rw[hB]at HPJ;have HLK:=zH hlk;have HHB:=zH hB;have i0:(0:Int)<=(i:Int):=by omega
        have i1:(i:Int)<(n:Int):=by omega
        obtain⟨x0,x1,x2,x3,x4,x5,x6⟩:=zc7 HX.out;have HDq:=zH ((HKq.out.blk (w.heap.size+1) ⟨by omega,by omega⟩).trans HD4.out);have HHq:=zH ((HKq.out.blk gs ⟨by omega,by omega⟩).trans HH4.out);have d1:=zd HDq.out 1;simp only[List.getElem?_toArray,List.getElem?_cons_zero,List.getElem?_cons_succ]at d1;have HXP:=zH xp;have HSZQ:Hid (w.heap.size<wq.heap.size):=zH (by omega);clear hi hLK hlk hPC hFJ hFJN hBASE hlo hB xp;go_wp2_with fail
        (with_reducible refine CK.out.mono ?_)
        rintro e w5 ⟨ak,ck,rfl,ho5,hb5⟩;have HR5:Hid (Reads w5 ak (zw LK)):=zH (zF ho5);have HAK6:Hid (∀a,ak=some a->a.block≠w.heap.size):=zH (fun q hq=>by have h1:=QB ho5 q hq;have:=HSZQ.out;omega);have HB5:=zH hb5;have HX5:=zH ((hb5.block w.heap.size HSZQ.out).trans HX.out);have HD5:=zH ((hb5.block (w.heap.size+1) (by omega)).trans HDq.out);have HH5:=zH ((hb5.block gs (by omega)).trans HHq.out);have p5:=(hb5.cell (p:=⟨bp,op+i,none⟩) (World.block_lt_of_cell? wq _ HXP.out)).trans HXP.out;obtain⟨g0,g1⟩:=zc2 HH5.out;have HL5:Hid (gs<w5.heap.size/\bp<w5.heap.size):=zH ⟨by have:=hb5.size;omega,World.block_lt_of_cell? w5 _ p5⟩;have CC:Hid (∀W,Below w5.heap.size w5 W->Calls Tryz.prog 81 #[.slice ak lk ck,.agg #[.int .i64 (b1:Int),.int .i64 0,.string PC]] W (Xp B W)):=zH (fun W hb=>by
         have h1:=pP LK lk b1 PC ak ck W HLK.out (by omega) (zH (HR5.out.below hb));rw[HHB.out]at h1;exact h1)
        unfold Xp at CC;clear ho5 hb5 CK x0 x1 x2 x3 x4 x5 x6 d1 xu;go_wp2_with fail
        go_region_held3 (fun w'=>w'.cell? ⟨gs,0,none⟩=some (.int .i64 (b1:Int))/\w'.cell? ⟨gs,1,none⟩=some (.int .i64 0)/\w'.cell? ⟨bp,op+i,none⟩=some (.string PC)) (first|exact⟨(hb6.cell (p:=⟨gs,0,none⟩) HL5.out.1).trans g0,(hb6.cell (p:=⟨gs,1,none⟩) HL5.out.1).trans g1,(hb6.cell (p:=⟨bp,op+i,none⟩) HL5.out.2).trans p5⟩|go_keep)
         (first|(go_at_call 81;(with_reducible refine(CC.out _ (by first|exact Below.refl _ _|exact zb (Below.refl _ _))).mono ?_);rintro e w6 ⟨rfl,hb6⟩))
        all_goals
         have HB56:Hid (Below w5.heap.size w5 w6):=zH (by first|exact hb6|exact(zb (Below.refl _ _)).trans hb6);clear hb6 g0 g1;obtain⟨zz,hzz⟩:∃zz,w6.heap.size=zz:=⟨_,rfl⟩
         have HZZ:=zH hzz;have hzle:z<=zz:=by have h1:=HB5.out.size;have h2:=HB56.out.size;omega
         have HX6:=zH ((HB56.out.block w.heap.size (by have:=HL5.out.1;omega)).trans HX5.out);have HD6b:=zH ((HB56.out.block (w.heap.size+1) (by have:=HL5.out.1;omega)).trans HD5.out);have HH6:=zH ((HB56.out.block gs HL5.out.1).trans HH5.out);have d1:=zd HD6b.out 1;obtain⟨g0,g1⟩:=zc2 HH6.out;have x6:=zd HX6.out 6;simp only[List.getElem?_toArray,List.getElem?_cons_zero,List.getElem?_cons_succ]at d1 x6;have p6:=(HB56.out.cell (p:=⟨bp,op+i,none⟩) HL5.out.2).trans p5;have HD6:=zH d1;have HG0:=zH g0;have HG1:=zH g1;have HP6:=zH p6;have hbpz:bp<zz:=by rw[<-hzz];exact World.block_lt_of_cell? w6 _ p6
         have hbpn:bp≠w.heap.size:=HAP.out _ rfl;have HL6:Hid (w.heap.size+1<w6.heap.size/\gs<w6.heap.size/\bp<w6.heap.size):=zH (by omega);have HNS:Hid (w.heap.size+1≠w.heap.size/\gs≠w.heap.size/\bp≠w.heap.size):=zH (by omega);have HR6:Hid (Reads w6 ak (zw LK)):=zH (HR5.out.below HB56.out);have HBq6:Hid (Below wq.heap.size wq w6):=zH (HB5.out.trans (HB56.out.mono HB5.out.size));have HK46:Hid (Kept (AvB w.heap.size z) w.heap.size w4 w6):=zH (HKq.out.trans (Kept.of_below HBq6.out (by omega) (fun g hg=>by have:=hg.2;omega)));have CW:Hid (∀W,Below w6.heap.size w6 W->Calls Tryz.prog 78 #[.slice al ll cl,.int .i64 (i:Int),.int .i64 (key:Int)] W (fun e w'=>∃ao cap,e=.returned (.slice ao lo cap)/\Hid (w'.ownsRow zz 108 5 (.slice ao lo cap) lo (ze (yw (atB i key) FJ)))/\Hid (Below w6.heap.size w6 w')/\Hid (Below W.heap.size W w'))):=zH (fun W hb=>by
          refine(ZP FJ ll al cl i key W hll3 HLL.out HNl.out (zH ((HRl.out.below HBq6.out).below hb))).mono ?_;rintro e w' ⟨ao,cap,rfl,ho,hb2⟩;rw[HLO.out]at ho ⊢;exact⟨ao,cap,rfl,zH (qm ho (by rw[<-HZZ.out];exact hb.size)),zH (hb.trans (hb2.mono hb.size)),zH hb2⟩)
         clear hzz p5;cases B with
         |true=>
          have xa6:=((zc w6 (.cells #[.int .i64 (i:Int),.int .i64 (key:Int),.int .i64 (b1:Int),.int .i64 0,.string PC] 108)).cell (p:=⟨w.heap.size,6,none⟩) (show w.heap.size<w6.heap.size by have:=HL6.out.1;omega)).trans x6;have HPN:Hid (((U.take (j+1)).foldl (qw k tx1 b1 key) (st,0)).2=mn):=zH (by rw[HPJ.out,HPM.out];rfl);go_wp2_with fail
          refine wp_region_noPanic ?_;refine jh (fun w'=>w'.cell? ⟨w.heap.size,6,none⟩=some (.slice al ll cl)/\w'.cell? ⟨w.heap.size+1,1,none⟩=some (.int .i64 (key:Int))/\w'.cell? ⟨gs,0,none⟩=some (.int .i64 (b1:Int))/\w'.cell? ⟨gs,1,none⟩=some (.int .i64 0)/\w'.cell? ⟨bp,op+i,none⟩=some (.string PC)) 19 (by kernel_rfl) ?_;refine zo (i:=0) (v:=.pointer (some ⟨w.heap.size,6,none⟩)) rfl (by kernel_rfl) (by kernel_rfl) (by kernel_rfl) (by kernel_rfl) (fun _ _ _ h=>h) (.inl ⟨rfl,fun W hW=>(by obtain⟨h1,h2,h3,h4,h5⟩:=hW;go_simp)⟩) ⟨x6,d1,g0,g1,p6⟩ ?_
          try simp only[Act.put,List.setIfInBounds_toArray,List.set_cons_zero,List.set_cons_succ]
          refine zo (i:=1) (v:=.slice al ll cl) rfl (by kernel_rfl) (by kernel_rfl) (by kernel_rfl) (by kernel_rfl) (fun _ _ _ h=>h) (.inl ⟨rfl,fun W hW=>(by obtain⟨h1,h2,h3,h4,h5⟩:=hW;go_simp)⟩) ⟨x6,d1,g0,g1,p6⟩ ?_
          try simp only[Act.put,List.setIfInBounds_toArray,List.set_cons_zero,List.set_cons_succ]
          refine zo (i:=2) (v:=.int .i64 (i:Int)) rfl (by kernel_rfl) (by kernel_rfl) (by kernel_rfl) (by kernel_rfl) (fun _ _ _ h=>h) (.inl ⟨rfl,fun W hW=>(by obtain⟨h1,h2,h3,h4,h5⟩:=hW;go_simp)⟩) ⟨x6,d1,g0,g1,p6⟩ ?_
          try simp only[Act.put,List.setIfInBounds_toArray,List.set_cons_zero,List.set_cons_succ]
          refine zo (i:=3) (v:=.pointer (some ⟨w.heap.size+1,1,none⟩)) rfl (by kernel_rfl) (by kernel_rfl) (by kernel_rfl) (by kernel_rfl) (fun _ _ _ h=>h) (.inl ⟨rfl,fun W hW=>(by obtain⟨h1,h2,h3,h4,h5⟩:=hW;go_simp)⟩) ⟨x6,d1,g0,g1,p6⟩ ?_
          try simp only[Act.put,List.setIfInBounds_toArray,List.set_cons_zero,List.set_cons_succ]
          refine zo (i:=4) (v:=.int .i64 (key:Int)) rfl (by kernel_rfl) (by kernel_rfl) (by kernel_rfl) (by kernel_rfl) (fun _ _ _ h=>h) (.inl ⟨rfl,fun W hW=>(by obtain⟨h1,h2,h3,h4,h5⟩:=hW;go_simp)⟩) ⟨x6,d1,g0,g1,p6⟩ ?_
          try simp only[Act.put,List.setIfInBounds_toArray,List.set_cons_zero,List.set_cons_succ]
          refine zo (i:=6) (v:=.int .i64 (i:Int)) rfl (by kernel_rfl) (by kernel_rfl) (by kernel_rfl) (by kernel_rfl) (fun _ _ _ h=>h) (.inl ⟨rfl,fun W hW=>(by obtain⟨h1,h2,h3,h4,h5⟩:=hW;go_simp)⟩) ⟨x6,d1,g0,g1,p6⟩ ?_
          try simp only[Act.put,List.setIfInBounds_toArray,List.set_cons_zero,List.set_cons_succ]
          refine zo (i:=7) (v:=.pointer (some ⟨w.heap.size+1,1,none⟩)) rfl (by kernel_rfl) (by kernel_rfl) (by kernel_rfl) (by kernel_rfl) (fun _ _ _ h=>h) (.inl ⟨rfl,fun W hW=>(by obtain⟨h1,h2,h3,h4,h5⟩:=hW;go_simp)⟩) ⟨x6,d1,g0,g1,p6⟩ ?_
          try simp only[Act.put,List.setIfInBounds_toArray,List.set_cons_zero,List.set_cons_succ]
          refine zo (i:=8) (v:=.int .i64 (key:Int)) rfl (by kernel_rfl) (by kernel_rfl) (by kernel_rfl) (by kernel_rfl) (fun _ _ _ h=>h) (.inl ⟨rfl,fun W hW=>(by obtain⟨h1,h2,h3,h4,h5⟩:=hW;go_simp)⟩) ⟨x6,d1,g0,g1,p6⟩ ?_
          try simp only[Act.put,List.setIfInBounds_toArray,List.set_cons_zero,List.set_cons_succ]
          refine zo (i:=9) (v:=.agg #[.int .i64 (b1:Int),.int .i64 0]) rfl (by kernel_rfl) (by kernel_rfl) (by kernel_rfl) (by kernel_rfl) (fun _ _ _ h=>h) (.inl ⟨rfl,fun W hW=>(by obtain⟨h1,h2,h3,h4,h5⟩:=hW;go_simp)⟩) ⟨x6,d1,g0,g1,p6⟩ ?_
          try simp only[Act.put,List.setIfInBounds_toArray,List.set_cons_zero,List.set_cons_succ]
          refine zo (i:=10) (v:=.slice (some ⟨bp,op,none⟩) n cp) rfl (by kernel_rfl) (by kernel_rfl) (by kernel_rfl) (by kernel_rfl) (fun _ _ _ h=>h) (.inl ⟨rfl,fun W hW=>(by obtain⟨h1,h2,h3,h4,h5⟩:=hW;go_simp)⟩) ⟨x6,d1,g0,g1,p6⟩ ?_
          try simp only[Act.put,List.setIfInBounds_toArray,List.set_cons_zero,List.set_cons_succ]
          refine zo (i:=11) (v:=.int .i64 (i:Int)) rfl (by kernel_rfl) (by kernel_rfl) (by kernel_rfl) (by kernel_rfl) (fun _ _ _ h=>h) (.inl ⟨rfl,fun W hW=>(by obtain⟨h1,h2,h3,h4,h5⟩:=hW;go_simp)⟩) ⟨x6,d1,g0,g1,p6⟩ ?_
          try simp only[Act.put,List.setIfInBounds_toArray,List.set_cons_zero,List.set_cons_succ]
          refine zo (i:=12) (v:=.pointer (some ⟨bp,op+i,none⟩)) rfl (by kernel_rfl) (by kernel_rfl) (by kernel_rfl) (by kernel_rfl) (fun _ _ _ h=>h) (.inl ⟨rfl,fun W hW=>(by obtain⟨h1,h2,h3,h4,h5⟩:=hW;go_simp)⟩) ⟨x6,d1,g0,g1,p6⟩ ?_
          try simp only[Act.put,List.setIfInBounds_toArray,List.set_cons_zero,List.set_cons_succ]
          refine zo (i:=13) (v:=.string PC) rfl (by kernel_rfl) (by kernel_rfl) (by kernel_rfl) (by kernel_rfl) (fun _ _ _ h=>h) (.inl ⟨rfl,fun W hW=>(by obtain⟨h1,h2,h3,h4,h5⟩:=hW;go_simp)⟩) ⟨x6,d1,g0,g1,p6⟩ ?_
          try simp only[Act.put,List.setIfInBounds_toArray,List.set_cons_zero,List.set_cons_succ]
          refine zo (i:=14) (v:=.agg #[.int .i64 (b1:Int),.int .i64 0,.string PC]) rfl (by kernel_rfl) (by kernel_rfl) (by kernel_rfl) (by kernel_rfl) (fun _ _ _ h=>h) (.inl ⟨rfl,fun W hW=>(by obtain⟨h1,h2,h3,h4,h5⟩:=hW;go_simp)⟩) ⟨x6,d1,g0,g1,p6⟩ ?_
          try simp only[Act.put,List.setIfInBounds_toArray,List.set_cons_zero,List.set_cons_succ]
          refine zo (i:=15) (v:=.agg #[.int .i64 (i:Int),.int .i64 (key:Int),.int .i64 (b1:Int),.int .i64 0,.string PC]) rfl (by kernel_rfl) (by kernel_rfl) (by kernel_rfl) (by kernel_rfl) (fun _ _ _ h=>h) (.inl ⟨rfl,fun W hW=>(by obtain⟨h1,h2,h3,h4,h5⟩:=hW;go_simp)⟩) ⟨x6,d1,g0,g1,p6⟩ ?_
          try simp only[Act.put,List.setIfInBounds_toArray,List.set_cons_zero,List.set_cons_succ]
          refine XI (i:=5) (j:=16) (by kernel_rfl) ?_ ?_
          . refine wpOp_step rfl (fun K hK=>?_);have HK':=zH hK;clear hK
            go_simp
            (go_at_call 78;(with_reducible refine(CW.out _ (by repeat(first|(with_reducible exact Below.refl _ _)|(with_reducible apply zb)|(with_reducible apply zg)|(with_reducible refine Below.alloc ?_ (by simp;try omega) _)))).mono ?_))
            rintro e w7 ⟨a7,c7,rfl,ho7,hb7,hbW⟩;have d7:=(hb7.out.cell (p:=⟨w.heap.size+1,1,none⟩) HL6.out.1).trans HD6.out;have g70:=(hb7.out.cell (p:=⟨gs,0,none⟩) HL6.out.2.1).trans HG0.out;have g71:=(hb7.out.cell (p:=⟨gs,1,none⟩) HL6.out.2.1).trans HG1.out;have p7:=(hb7.out.cell (p:=⟨bp,op+i,none⟩) HL6.out.2.2).trans HP6.out;have x7:=(hb7.out.cell (p:=⟨w.heap.size,6,none⟩) (by have:=HL6.out.1;show w.heap.size<w6.heap.size;omega)).trans x6;have HX7:Hid (w7.heap[w.heap.size]?=some (.cells (shC n k wr0 r D mw (.slice al ll cl)) 41 (0,0))):=zH ((hb7.out.block w.heap.size (by have:=HL6.out.1;omega)).trans HX6.out);have HZ7:Hid (zz<=w7.heap.size):=zH (by rw[<-HZZ.out];exact hb7.out.size);refine HK'.out _ _ ⟨fun _=>⟨x7,d7,g70,g71,p7⟩,?_⟩;clear HK' K
            try simp only[Act.put,List.setIfInBounds_toArray,List.set_cons_zero,List.set_cons_succ]
            refine yh (i:=16) (by kernel_rfl) ?_;refine wpOp_step rfl (fun K hK=>?_);have HK':=zH hK;clear hK
            go_simp
            refine HK'.out _ _ ⟨fun _=>⟨yM x7,yM d7,yM g70,yM g71,yM p7⟩,?_⟩;clear HK' K
            try simp only[Act.put,List.setIfInBounds_toArray,List.set_cons_zero,List.set_cons_succ]
            refine yh (i:=17) (by kernel_rfl) ?_;refine wpOp_step rfl (fun K hK=>?_);have HK':=zH hK;clear hK;refine qJ ?_ (.tmp 158) (.tmp 169) 39 ?_ zz 108 _ 5 48 Tryz.underlying39 qI (.slice a7 lo c7) lo _ ?_ w7 ho7.out HZ7.out ?_ ?_ #[.int .i64 (i:Int),.int .i64 (key:Int),.int .i64 (b1:Int),.int .i64 0,.string PC] ?_ ?_ rfl ?_ hm1.out hm2.out ?_;(focus rfl);(focus rfl);(focus rfl);(focus (repeat(first|(with_reducible exact Below.refl _ _)|(with_reducible apply zb)|(with_reducible apply zg)|(with_reducible refine Below.alloc ?_ (by simp;try omega) _)|fail)));rotate_left;(focus rfl);(focus (repeat(first|(with_reducible exact zl _ _ _ (by simp;try omega))|(with_reducible apply yu)|(with_reducible apply yO)|(with_reducible refine(hbW.out.block _ (by simp;try omega)).trans ?_)|(with_reducible apply za)|fail)));(focus (intro u hu;simp at hu;rcases hu with rfl|rfl|rfl|rfl|rfl<;>rfl));intro g9 c9 w9 hown9 hgr9 hat9;have hno:∀g,g<zz->some g≠(Value.slice a7 lo c7).ownBlock:=(fun g hg e=>by have:=(ho7.out.lt g e.symm).1;omega)
            have d9:=hgr9.cell d7 (hno (w.heap.size+1) (by omega));have g90:=hgr9.cell g70 (hno gs (by omega));have g91:=hgr9.cell g71 (hno gs (by omega));have p9:=hgr9.cell p7 (hno bp (by omega));have HX9:Hid (w9.heap[w.heap.size]?=some (.cells (shC n k wr0 r D mw (.slice al ll cl)) 41 (0,0))):=zH ((hgr9.block w.heap.size (by have:=HZ7.out;omega) (hno w.heap.size (by omega))).trans HX7.out);have x69:w9.cell? ⟨w.heap.size,6,none⟩=some (.slice al ll cl):=(zd HX9.out 6).trans rfl;have fx69:=zm HX9.out 6;have HK9:Hid (∀v,Kept (AvB w.heap.size zz) w.heap.size w6 (w9.setCell ⟨w.heap.size,6,none⟩ v)):=zH (fun v=>vZ (by rw[<-HZZ.out];exact hb7.out) (by omega) HZ7.out hgr9 (fun q hq=>(ho7.out.lt q hq).1) v);have HO9:=zH hown9;clear hno hown9 hgr9 hat9;refine HK'.out _ _ ⟨fun _=>⟨x69,d9,g90,g91,p9⟩,?_⟩;clear HK' K
            try simp only[Act.put,List.setIfInBounds_toArray,List.set_cons_zero,List.set_cons_succ]
            refine yh (i:=18) (by kernel_rfl) ?_;refine wpOp_step rfl (fun K hK=>?_);have HK':=zH hK;clear hK
            go_simp
            refine HK'.out _ _ ⟨fun _=>⟨x69,d9,g90,g91,p9⟩,?_⟩;clear HK' K
            try simp only[Act.put,List.setIfInBounds_toArray,List.set_cons_zero,List.set_cons_succ]
            refine yh (i:=19) (by kernel_rfl) ?_;refine wpOp_step rfl (fun K hK=>?_);have HK':=zH hK;clear hK
            go_simp
            refine HK'.out _ _ ⟨fun h=>absurd rfl h,?_⟩;clear HK' K;refine jg (by kernel_rfl) (NoPanic.normal ?_) 0;obtain⟨W10,hW10⟩:∃W10,w9.setCell ⟨w.heap.size,6,none⟩ (.slice (some ⟨g9,0,none⟩) (lo+1) c9)=W10:=⟨_,rfl⟩
            have HK10:Hid (Kept (AvB w.heap.size zz) w.heap.size w6 W10):=zH (by rw[<-hW10];exact HK9.out _);have HX10:Hid (W10.heap[w.heap.size]?=some (.cells (shC n k wr0 r D mw (.slice (some ⟨g9,0,none⟩) (lo+1) c9)) 41 (0,0))):=zH (by rw[<-hW10,heap_set _ HX9.out];rfl);have HO10:Hid (W10.ownsRow zz 108 5 (.slice (some ⟨g9,0,none⟩) (lo+1) c9) (lo+1) (ze BASE)):=zH (by
             rw[<-hW10,<-HBE.out,yG];exact HO9.out.kept (zO _ _ _ _) (.inr (fun h=>by have:=(HO9.out.lt _ h).1;omega)))
            clear xa6 HX9 HO9 HK9 x69 fx69 d9 g90 g91 p9 d7 g70 g71 p7;go_wp2_with fail
            go_loopw [174] (fun ve wr=>∃(e ln:Nat) (al2:Option Addr) (cl2:Nat),ve=.int .i64 e/\e<=lk/\ln<=lo+1+e/\Hid ((BASE++fmK i key b1 (LK.take e)).length=ln)/\Hid (wr.ownsRow zz 108 5 (.slice al2 ln cl2) ln (ze (BASE++fmK i key b1 (LK.take e))))/\Hid (wr.heap[w.heap.size]?=some (.cells (shC n k wr0 r D mw (.slice al2 ln cl2)) 41 (0,0)))/\Hid (Kept (AvB w.heap.size zz) w.heap.size w6 wr)) (fun ve _=>lk-(intOf ve).toNat)
            case atStart=>exact⟨0,lo+1,some ⟨g9,0,none⟩,c9,rfl,by omega,by omega,zH (by rw[List.take_zero];show(BASE++[]).length=_;rw[List.append_nil];exact HBL.out),zH (by rw[List.take_zero];show World.ownsRow _ _ _ _ _ _ (ze (BASE++[]));rw[List.append_nil];exact HO10.out),HX10,HK10⟩
            case round=>
             clear HO10 HX10 HK10;obtain⟨e,ln,al2,cl2,rfl,he,hln,HLN,HO,HX,HKe⟩:=hrel;obtain⟨we,rfl⟩:∃we,we=wr:=⟨_,rfl⟩
             have HBe:Hid (zz<=we.heap.size):=zH (by rw[<-HZZ.out];exact HKe.out.bel.size);by_cases hel:e<lk
             . obtain⟨bk,ok,hrk,z0,z1,z2⟩:=y9 (vM HKe.out HZZ.out HR6.out HAK6.out) (k:=e) (by rw[HLK.out];exact hel);cases hrk;obtain⟨x,hx⟩:∃x,LK[e]'(by rw[HLK.out];exact hel)=x:=⟨_,rfl⟩
               have HXx:Hid (LK[e]?=some x):=zH (by rw[List.getElem?_eq_getElem (by rw[HLK.out];exact hel),hx]);rw[hx]at z0 z2;obtain⟨a2,s2⟩:=x;have d1e:=HKe.out.cell (g:=w.heap.size+1) ⟨by omega,by omega⟩ HD6.out;have g0e:=HKe.out.cell (g:=gs) ⟨by omega,by omega⟩ HG0.out;have g1e:=HKe.out.cell (g:=gs) ⟨by omega,by omega⟩ HG1.out;obtain⟨W8,hW8⟩:∃W8,we.alloc (.cells #[.int .i64 (a2:Int),.int .i64 0,.string s2] 106)=W8:=⟨_,rfl⟩
               have hb8:Below we.heap.size we W8:=by rw[<-hW8];exact zc _ _
               obtain⟨B8,hB8⟩:∃B8,we.heap.size=B8:=⟨_,rfl⟩
               have n0:W8.cell? ⟨B8,0,none⟩=some (.int .i64 (a2:Int)):=by rw[<-hW8,<-hB8];simp[World.cell?_alloc_new]
               have n1:W8.cell? ⟨B8,1,none⟩=some (.int .i64 0):=by rw[<-hW8,<-hB8];simp[World.cell?_alloc_new]
               have n2:W8.cell? ⟨B8,2,none⟩=some (.string s2):=by rw[<-hW8,<-hB8];simp[World.cell?_alloc_new]
               have hsz8:B8<W8.heap.size:=by rw[<-hW8,<-hB8];simp
               have hzb:zz<=B8:=by rw[<-hB8];exact HBe.out
               have d18:=(hb8.cell (p:=⟨w.heap.size+1,1,none⟩) (by have:=HBe.out;show w.heap.size+1<we.heap.size;omega)).trans d1e;have g08:=(hb8.cell (p:=⟨gs,0,none⟩) (by have:=HBe.out;show gs<we.heap.size;omega)).trans g0e;have g18:=(hb8.cell (p:=⟨gs,1,none⟩) (by have:=HBe.out;show gs<we.heap.size;omega)).trans g1e;have HX8:Hid (W8.heap[w.heap.size]?=some (.cells (shC n k wr0 r D mw (.slice al2 ln cl2)) 41 (0,0))):=zH (by rw[<-hW8];exact za _ _ HX.out);have HO8:Hid (W8.ownsRow zz 108 5 (.slice al2 ln cl2) ln (ze (BASE++fmK i key b1 (LK.take e)))):=zH (zi HO.out hb8);have HB8:Hid (Below zz we W8):=zH (hb8.mono HBe.out);have HSZ8:=zH hsz8;have CN:=zH (fun W=>jw (a2:Int) 0 (b1:Int) 0 W);rw[jx]at CN;clear hx hb8 d1e g0e g1e;by_cases hba:b1<a2
               . have hd:decide (b1<a2)=true:=decide_eq_true hba;rw[hd]at CN;have HFM:Hid (fmK i key b1 (LK.take (e+1))=fmK i key b1 (LK.take e)++[(i,key,a2,s2)]):=zH (Ym HXx.out hba);clear hba hd;go_wp2_with fail
                 (with_reducible refine(CN.out _).mono ?_)
                 rintro e' w11 ⟨rfl,hb11⟩;have n0':=(hb11.cell (p:=⟨B8,0,none⟩) HSZ8.out).trans n0;have n1':=(hb11.cell (p:=⟨B8,1,none⟩) HSZ8.out).trans n1;have n2':=(hb11.cell (p:=⟨B8,2,none⟩) HSZ8.out).trans n2;have d11:=(hb11.cell (p:=⟨w.heap.size+1,1,none⟩) (show w.heap.size+1<W8.heap.size by omega)).trans d18;have HX11:Hid (w11.heap[w.heap.size]?=some (.cells (shC n k wr0 r D mw (.slice al2 ln cl2)) 41 (0,0))):=zH ((hb11.block w.heap.size (by omega)).trans HX8.out);have x611:=zd HX11.out 6;simp only[List.getElem?_toArray,List.getElem?_cons_zero,List.getElem?_cons_succ]at x611;have HO11:=zH (zi HO8.out hb11);have HB11:Hid (Below zz we w11):=zH (HB8.out.trans (hb11.mono (by omega)));have HZ11:Hid (zz<=w11.heap.size):=zH (by have:=hb11.size;omega);clear hb11 n0 n1 n2 d18 g08 g18 CN z0 z1 z2 hW8 hB8;go_wp2_with (first
                  |(at_builtin;go_loud (refine yr rfl (.tmp 183) (.tmp 189) 39 rfl zz 108 _ 5 48 Tryz.underlying39 qI _ _ _ (by rfl) HO11.out [.int .i64 (i:Int),.int .i64 (key:Int),.int .i64 (a2:Int),.int .i64 0,.string s2] (by rfl) rfl (by intro u hu;simp at hu;rcases hu with rfl|rfl|rfl|rfl|rfl<;>rfl) (by unfold maxLen;omega) (by omega) HZ11.out ?_);intro v12 w12 hown12 hgr12 hb12;obtain⟨a12,c12,hv12,hr12,hn12,_⟩:=zr hown12;subst hv12;have x612:=(hb12.cell (p:=⟨w.heap.size,6,none⟩) (show w.heap.size<zz by omega)).trans x611;have fx612:w12.frozen? ⟨w.heap.size,6,none⟩=false:=(kI (hb12.block w.heap.size (by omega))).trans (zm HX11.out 6);have HX12:Hid (w12.heap[w.heap.size]?=some (.cells (shC n k wr0 r D mw (.slice al2 ln cl2)) 41 (0,0))):=zH ((hb12.block w.heap.size (by omega)).trans HX11.out);have HO12:=zH hown12;have HB12z:Hid (Below zz we w12):=zH (HB11.out.trans hb12);clear hown12 hgr12 hb12 hr12 hn12)
                  |fail)
                 have HOn:Hid ((w12.setCell ⟨w.heap.size,6,none⟩ (.slice a12 (ln+1) c12)).ownsRow zz 108 5 (.slice a12 (ln+1) c12) (ln+1) (ze (BASE++fmK i key b1 (LK.take (e+1))))):=zH (by
                  rw[HFM.out,<-List.append_assoc,yG];exact HO12.out.kept (zO _ _ _ _) (.inr (fun h=>by have:=(HO12.out.lt _ h).1;omega)))
                 have HXn:Hid ((w12.setCell ⟨w.heap.size,6,none⟩ (.slice a12 (ln+1) c12)).heap[w.heap.size]?=some (.cells (shC n k wr0 r D mw (.slice a12 (ln+1) c12)) 41 (0,0))):=zH (by rw[heap_set _ HX12.out];rfl);have HKn:Hid (Kept (AvB w.heap.size zz) w.heap.size w6 (w12.setCell ⟨w.heap.size,6,none⟩ (.slice a12 (ln+1) c12))):=zH (HKe.out.trans (vZ HB12z.out (by omega) (by have:=HB12z.out.size;have:=HBe.out;omega) (World.grownBy.refl w12 none) (fun q hq=>by cases hq) _));have HLn:Hid ((BASE++fmK i key b1 (LK.take (e+1))).length=ln+1):=zH (by rw[HFM.out,<-List.append_assoc,List.length_append,HLN.out];rfl);go_wp2_with fail
                 go_roundw
                 case rel=>exact⟨e+1,ln+1,a12,c12,by go_num,by omega,by omega,HLn,HOn,HXn,HKn⟩
                 case measure=>simp[intOf];omega
               . have hd:decide (b1<a2)=false:=decide_eq_false hba;rw[hd]at CN;have HFM:Hid (fmK i key b1 (LK.take (e+1))=fmK i key b1 (LK.take e)):=zH (Ku HXx.out hba);clear hba hd;go_wp2_with fail
                 (with_reducible refine(CN.out _).mono ?_)
                 rintro e' w11 ⟨rfl,hb11⟩;have HXn:Hid (w11.heap[w.heap.size]?=some (.cells (shC n k wr0 r D mw (.slice al2 ln cl2)) 41 (0,0))):=zH ((hb11.block w.heap.size (by omega)).trans HX8.out);have HOn:Hid (w11.ownsRow zz 108 5 (.slice al2 ln cl2) ln (ze (BASE++fmK i key b1 (LK.take (e+1))))):=zH (by rw[HFM.out];exact zi HO8.out hb11);have HLn:Hid ((BASE++fmK i key b1 (LK.take (e+1))).length=ln):=zH (by rw[HFM.out];exact HLN.out);have HKn:Hid (Kept (AvB w.heap.size zz) w.heap.size w6 w11):=zH (HKe.out.trans ⟨(HB8.out.trans (hb11.mono (by omega))).mono (by omega),fun g hg=>(HB8.out.trans (hb11.mono (by omega))).block g hg.2⟩);clear hb11 n0 n1 n2 d18 g08 g18 CN z0 z1 z2 hW8 hB8;go_wp2_with fail
                 go_roundw
                 case rel=>exact⟨e+1,ln,al2,cl2,by go_num,by omega,by omega,HLn,HOn,HXn,HKn⟩
                 case measure=>simp[intOf];omega
             . obtain rfl:lk=e:=by omega
               have HLI:Hid (BASE++fmK i key b1 (LK.take lk)=FJN):=zH (by rw[HFN.out,List.take_of_length_le (by rw[HLK.out];exact Nat.le_refl _)]);obtain⟨al3,cl3,hv3,hr3,hn3,_⟩:=zr HO.out;cases hv3;have HRn:Hid (Reads we al2 (ze FJN)):=zH (by rw[<-HLI.out];exact hr3);have HNn:Hid (al2=none->ln=0/\cl2=0):=zH hn3;have HBn:Hid ((al2=ao/\FJN=All)\/∀a,al2=some a->z<=a.block/\a.block<we.heap.size):=zH (.inr fun a ha=>by have h1:=HO.out.lt a.block (by rw[ha];rfl);exact⟨by omega,h1.2⟩);have HLn:Hid (FJN.length=ln):=zH (by rw[<-HLI.out];exact HLN.out);have HKn:Hid (Kept (AvB w.heap.size z) w.heap.size w4 we):=zH (HK46.out.trans (HKe.out.narrow fun g hg=>⟨hg.1,by have:=hg.2;omega⟩));clear hr3 hn3;go_wp2_with fail
               go_roundw
               case rel=>exact⟨j+1,mn,ln,al2,cl2,by go_num,by omega,rfl,by omega,by rw[HFJN.out];exact HLn,HPN,by rw[HFJN.out];exact HRn,HNn,by rw[HFJN.out];exact HBn,HX,HKn⟩
               case measure=>simp[intOf];omega
          . refine wpOp_step rfl (fun K hK=>?_);have HK':=zH hK;clear hK
            go_simp
            refine HK'.out _ _ ⟨fun _=>⟨yM x6,yM d1,yM g0,yM g1,yM p6⟩,?_⟩;clear HK' K
            try simp only[Act.put,List.setIfInBounds_toArray,List.set_cons_zero,List.set_cons_succ]
            refine yh (i:=5) (by kernel_rfl) ?_;refine wpOp_step rfl (fun K hK=>?_);have HK':=zH hK;clear hK
            go_simp
            (go_at_call 78;(with_reducible refine(CW.out _ (by repeat(first|(with_reducible exact Below.refl _ _)|(with_reducible apply zb)|(with_reducible apply zg)|(with_reducible refine Below.alloc ?_ (by simp;try omega) _)))).mono ?_))
            rintro e w7 ⟨a7,c7,rfl,ho7,hb7,hbW⟩;have d7:=(hb7.out.cell (p:=⟨w.heap.size+1,1,none⟩) HL6.out.1).trans HD6.out;have g70:=(hb7.out.cell (p:=⟨gs,0,none⟩) HL6.out.2.1).trans HG0.out;have g71:=(hb7.out.cell (p:=⟨gs,1,none⟩) HL6.out.2.1).trans HG1.out;have p7:=(hb7.out.cell (p:=⟨bp,op+i,none⟩) HL6.out.2.2).trans HP6.out;have x7:=(hb7.out.cell (p:=⟨w.heap.size,6,none⟩) (by have:=HL6.out.1;show w.heap.size<w6.heap.size;omega)).trans x6;have HX7:Hid (w7.heap[w.heap.size]?=some (.cells (shC n k wr0 r D mw (.slice al ll cl)) 41 (0,0))):=zH ((hb7.out.block w.heap.size (by have:=HL6.out.1;omega)).trans HX6.out);have HZ7:Hid (zz<=w7.heap.size):=zH (by rw[<-HZZ.out];exact hb7.out.size);refine HK'.out _ _ ⟨fun _=>⟨x7,d7,g70,g71,p7⟩,?_⟩;clear HK' K
            try simp only[Act.put,List.setIfInBounds_toArray,List.set_cons_zero,List.set_cons_succ]
            refine yh (i:=17) (by kernel_rfl) ?_;refine wpOp_step rfl (fun K hK=>?_);have HK':=zH hK;clear hK;refine qJ ?_ (.tmp 158) (.tmp 169) 39 ?_ zz 108 _ 5 48 Tryz.underlying39 qI (.slice a7 lo c7) lo _ ?_ w7 ho7.out HZ7.out ?_ ?_ #[.int .i64 (i:Int),.int .i64 (key:Int),.int .i64 (b1:Int),.int .i64 0,.string PC] ?_ ?_ rfl ?_ hm1.out hm2.out ?_;(focus rfl);(focus rfl);(focus rfl);(focus (repeat(first|(with_reducible exact Below.refl _ _)|(with_reducible apply zb)|(with_reducible apply zg)|(with_reducible refine Below.alloc ?_ (by simp;try omega) _)|fail)));rotate_left;(focus rfl);(focus (repeat(first|(with_reducible exact zl _ _ _ (by simp;try omega))|(with_reducible apply yu)|(with_reducible apply yO)|(with_reducible refine(hbW.out.block _ (by simp;try omega)).trans ?_)|(with_reducible apply za)|fail)));(focus (intro u hu;simp at hu;rcases hu with rfl|rfl|rfl|rfl|rfl<;>rfl));intro g9 c9 w9 hown9 hgr9 hat9;have hno:∀g,g<zz->some g≠(Value.slice a7 lo c7).ownBlock:=(fun g hg e=>by have:=(ho7.out.lt g e.symm).1;omega)
            have d9:=hgr9.cell d7 (hno (w.heap.size+1) (by omega));have g90:=hgr9.cell g70 (hno gs (by omega));have g91:=hgr9.cell g71 (hno gs (by omega));have p9:=hgr9.cell p7 (hno bp (by omega));have HX9:Hid (w9.heap[w.heap.size]?=some (.cells (shC n k wr0 r D mw (.slice al ll cl)) 41 (0,0))):=zH ((hgr9.block w.heap.size (by have:=HZ7.out;omega) (hno w.heap.size (by omega))).trans HX7.out);have x69:w9.cell? ⟨w.heap.size,6,none⟩=some (.slice al ll cl):=(zd HX9.out 6).trans rfl;have fx69:=zm HX9.out 6;have HK9:Hid (∀v,Kept (AvB w.heap.size zz) w.heap.size w6 (w9.setCell ⟨w.heap.size,6,none⟩ v)):=zH (fun v=>vZ (by rw[<-HZZ.out];exact hb7.out) (by omega) HZ7.out hgr9 (fun q hq=>(ho7.out.lt q hq).1) v);have HO9:=zH hown9;clear hno hown9 hgr9 hat9;refine HK'.out _ _ ⟨fun _=>⟨x69,d9,g90,g91,p9⟩,?_⟩;clear HK' K
            try simp only[Act.put,List.setIfInBounds_toArray,List.set_cons_zero,List.set_cons_succ]
            refine yh (i:=18) (by kernel_rfl) ?_;refine wpOp_step rfl (fun K hK=>?_);have HK':=zH hK;clear hK
            go_simp
            refine HK'.out _ _ ⟨fun _=>⟨x69,d9,g90,g91,p9⟩,?_⟩;clear HK' K
            try simp only[Act.put,List.setIfInBounds_toArray,List.set_cons_zero,List.set_cons_succ]
            refine yh (i:=19) (by kernel_rfl) ?_;refine wpOp_step rfl (fun K hK=>?_);have HK':=zH hK;clear hK
            go_simp
            refine HK'.out _ _ ⟨fun h=>absurd rfl h,?_⟩;clear HK' K;refine jg (by kernel_rfl) (NoPanic.normal ?_) 0;obtain⟨W10,hW10⟩:∃W10,w9.setCell ⟨w.heap.size,6,none⟩ (.slice (some ⟨g9,0,none⟩) (lo+1) c9)=W10:=⟨_,rfl⟩
            have HK10:Hid (Kept (AvB w.heap.size zz) w.heap.size w6 W10):=zH (by rw[<-hW10];exact HK9.out _);have HX10:Hid (W10.heap[w.heap.size]?=some (.cells (shC n k wr0 r D mw (.slice (some ⟨g9,0,none⟩) (lo+1) c9)) 41 (0,0))):=zH (by rw[<-hW10,heap_set _ HX9.out];rfl);have HO10:Hid (W10.ownsRow zz 108 5 (.slice (some ⟨g9,0,none⟩) (lo+1) c9) (lo+1) (ze BASE)):=zH (by
             rw[<-hW10,<-HBE.out,yG];exact HO9.out.kept (zO _ _ _ _) (.inr (fun h=>by have:=(HO9.out.lt _ h).1;omega)))
            clear xa6 HX9 HO9 HK9 x69 fx69 d9 g90 g91 p9 d7 g70 g71 p7;go_wp2_with fail
            go_loopw [174] (fun ve wr=>∃(e ln:Nat) (al2:Option Addr) (cl2:Nat),ve=.int .i64 e/\e<=lk/\ln<=lo+1+e/\Hid ((BASE++fmK i key b1 (LK.take e)).length=ln)/\Hid (wr.ownsRow zz 108 5 (.slice al2 ln cl2) ln (ze (BASE++fmK i key b1 (LK.take e))))/\Hid (wr.heap[w.heap.size]?=some (.cells (shC n k wr0 r D mw (.slice al2 ln cl2)) 41 (0,0)))/\Hid (Kept (AvB w.heap.size zz) w.heap.size w6 wr)) (fun ve _=>lk-(intOf ve).toNat)
            case atStart=>exact⟨0,lo+1,some ⟨g9,0,none⟩,c9,rfl,by omega,by omega,zH (by rw[List.take_zero];show(BASE++[]).length=_;rw[List.append_nil];exact HBL.out),zH (by rw[List.take_zero];show World.ownsRow _ _ _ _ _ _ (ze (BASE++[]));rw[List.append_nil];exact HO10.out),HX10,HK10⟩
            case round=>
             clear HO10 HX10 HK10;obtain⟨e,ln,al2,cl2,rfl,he,hln,HLN,HO,HX,HKe⟩:=hrel;obtain⟨we,rfl⟩:∃we,we=wr:=⟨_,rfl⟩
             have HBe:Hid (zz<=we.heap.size):=zH (by rw[<-HZZ.out];exact HKe.out.bel.size);by_cases hel:e<lk
             . obtain⟨bk,ok,hrk,z0,z1,z2⟩:=y9 (vM HKe.out HZZ.out HR6.out HAK6.out) (k:=e) (by rw[HLK.out];exact hel);cases hrk;obtain⟨x,hx⟩:∃x,LK[e]'(by rw[HLK.out];exact hel)=x:=⟨_,rfl⟩
               have HXx:Hid (LK[e]?=some x):=zH (by rw[List.getElem?_eq_getElem (by rw[HLK.out];exact hel),hx]);rw[hx]at z0 z2;obtain⟨a2,s2⟩:=x;have d1e:=HKe.out.cell (g:=w.heap.size+1) ⟨by omega,by omega⟩ HD6.out;have g0e:=HKe.out.cell (g:=gs) ⟨by omega,by omega⟩ HG0.out;have g1e:=HKe.out.cell (g:=gs) ⟨by omega,by omega⟩ HG1.out;obtain⟨W8,hW8⟩:∃W8,we.alloc (.cells #[.int .i64 (a2:Int),.int .i64 0,.string s2] 106)=W8:=⟨_,rfl⟩
               have hb8:Below we.heap.size we W8:=by rw[<-hW8];exact zc _ _
               obtain⟨B8,hB8⟩:∃B8,we.heap.size=B8:=⟨_,rfl⟩
               have n0:W8.cell? ⟨B8,0,none⟩=some (.int .i64 (a2:Int)):=by rw[<-hW8,<-hB8];simp[World.cell?_alloc_new]
               have n1:W8.cell? ⟨B8,1,none⟩=some (.int .i64 0):=by rw[<-hW8,<-hB8];simp[World.cell?_alloc_new]
               have n2:W8.cell? ⟨B8,2,none⟩=some (.string s2):=by rw[<-hW8,<-hB8];simp[World.cell?_alloc_new]
               have hsz8:B8<W8.heap.size:=by rw[<-hW8,<-hB8];simp
               have hzb:zz<=B8:=by rw[<-hB8];exact HBe.out
               have d18:=(hb8.cell (p:=⟨w.heap.size+1,1,none⟩) (by have:=HBe.out;show w.heap.size+1<we.heap.size;omega)).trans d1e;have g08:=(hb8.cell (p:=⟨gs,0,none⟩) (by have:=HBe.out;show gs<we.heap.size;omega)).trans g0e;have g18:=(hb8.cell (p:=⟨gs,1,none⟩) (by have:=HBe.out;show gs<we.heap.size;omega)).trans g1e;have HX8:Hid (W8.heap[w.heap.size]?=some (.cells (shC n k wr0 r D mw (.slice al2 ln cl2)) 41 (0,0))):=zH (by rw[<-hW8];exact za _ _ HX.out);have HO8:Hid (W8.ownsRow zz 108 5 (.slice al2 ln cl2) ln (ze (BASE++fmK i key b1 (LK.take e)))):=zH (zi HO.out hb8);have HB8:Hid (Below zz we W8):=zH (hb8.mono HBe.out);have HSZ8:=zH hsz8;have CN:=zH (fun W=>jw (a2:Int) 0 (b1:Int) 0 W);rw[jx]at CN;clear hx hb8 d1e g0e g1e;by_cases hba:b1<a2
               . have hd:decide (b1<a2)=true:=decide_eq_true hba;rw[hd]at CN;have HFM:Hid (fmK i key b1 (LK.take (e+1))=fmK i key b1 (LK.take e)++[(i,key,a2,s2)]):=zH (Ym HXx.out hba);clear hba hd;go_wp2_with fail
                 (with_reducible refine(CN.out _).mono ?_)
                 rintro e' w11 ⟨rfl,hb11⟩;have n0':=(hb11.cell (p:=⟨B8,0,none⟩) HSZ8.out).trans n0;have n1':=(hb11.cell (p:=⟨B8,1,none⟩) HSZ8.out).trans n1;have n2':=(hb11.cell (p:=⟨B8,2,none⟩) HSZ8.out).trans n2;have d11:=(hb11.cell (p:=⟨w.heap.size+1,1,none⟩) (show w.heap.size+1<W8.heap.size by omega)).trans d18;have HX11:Hid (w11.heap[w.heap.size]?=some (.cells (shC n k wr0 r D mw (.slice al2 ln cl2)) 41 (0,0))):=zH ((hb11.block w.heap.size (by omega)).trans HX8.out);have x611:=zd HX11.out 6;simp only[List.getElem?_toArray,List.getElem?_cons_zero,List.getElem?_cons_succ]at x611;have HO11:=zH (zi HO8.out hb11);have HB11:Hid (Below zz we w11):=zH (HB8.out.trans (hb11.mono (by omega)));have HZ11:Hid (zz<=w11.heap.size):=zH (by have:=hb11.size;omega);clear hb11 n0 n1 n2 d18 g08 g18 CN z0 z1 z2 hW8 hB8;go_wp2_with (first
                  |(at_builtin;go_loud (refine yr rfl (.tmp 183) (.tmp 189) 39 rfl zz 108 _ 5 48 Tryz.underlying39 qI _ _ _ (by rfl) HO11.out [.int .i64 (i:Int),.int .i64 (key:Int),.int .i64 (a2:Int),.int .i64 0,.string s2] (by rfl) rfl (by intro u hu;simp at hu;rcases hu with rfl|rfl|rfl|rfl|rfl<;>rfl) (by unfold maxLen;omega) (by omega) HZ11.out ?_);intro v12 w12 hown12 hgr12 hb12;obtain⟨a12,c12,hv12,hr12,hn12,_⟩:=zr hown12;subst hv12;have x612:=(hb12.cell (p:=⟨w.heap.size,6,none⟩) (show w.heap.size<zz by omega)).trans x611;have fx612:w12.frozen? ⟨w.heap.size,6,none⟩=false:=(kI (hb12.block w.heap.size (by omega))).trans (zm HX11.out 6);have HX12:Hid (w12.heap[w.heap.size]?=some (.cells (shC n k wr0 r D mw (.slice al2 ln cl2)) 41 (0,0))):=zH ((hb12.block w.heap.size (by omega)).trans HX11.out);have HO12:=zH hown12;have HB12z:Hid (Below zz we w12):=zH (HB11.out.trans hb12);clear hown12 hgr12 hb12 hr12 hn12)
                  |fail)
                 have HOn:Hid ((w12.setCell ⟨w.heap.size,6,none⟩ (.slice a12 (ln+1) c12)).ownsRow zz 108 5 (.slice a12 (ln+1) c12) (ln+1) (ze (BASE++fmK i key b1 (LK.take (e+1))))):=zH (by
                  rw[HFM.out,<-List.append_assoc,yG];exact HO12.out.kept (zO _ _ _ _) (.inr (fun h=>by have:=(HO12.out.lt _ h).1;omega)))
                 have HXn:Hid ((w12.setCell ⟨w.heap.size,6,none⟩ (.slice a12 (ln+1) c12)).heap[w.heap.size]?=some (.cells (shC n k wr0 r D mw (.slice a12 (ln+1) c12)) 41 (0,0))):=zH (by rw[heap_set _ HX12.out];rfl);have HKn:Hid (Kept (AvB w.heap.size zz) w.heap.size w6 (w12.setCell ⟨w.heap.size,6,none⟩ (.slice a12 (ln+1) c12))):=zH (HKe.out.trans (vZ HB12z.out (by omega) (by have:=HB12z.out.size;have:=HBe.out;omega) (World.grownBy.refl w12 none) (fun q hq=>by cases hq) _));have HLn:Hid ((BASE++fmK i key b1 (LK.take (e+1))).length=ln+1):=zH (by rw[HFM.out,<-List.append_assoc,List.length_append,HLN.out];rfl);go_wp2_with fail
                 go_roundw
                 case rel=>exact⟨e+1,ln+1,a12,c12,by go_num,by omega,by omega,HLn,HOn,HXn,HKn⟩
                 case measure=>simp[intOf];omega
               . have hd:decide (b1<a2)=false:=decide_eq_false hba;rw[hd]at CN;have HFM:Hid (fmK i key b1 (LK.take (e+1))=fmK i key b1 (LK.take e)):=zH (Ku HXx.out hba);clear hba hd;go_wp2_with fail
                 (with_reducible refine(CN.out _).mono ?_)
                 rintro e' w11 ⟨rfl,hb11⟩;have HXn:Hid (w11.heap[w.heap.size]?=some (.cells (shC n k wr0 r D mw (.slice al2 ln cl2)) 41 (0,0))):=zH ((hb11.block w.heap.size (by omega)).trans HX8.out);have HOn:Hid (w11.ownsRow zz 108 5 (.slice al2 ln cl2) ln (ze (BASE++fmK i key b1 (LK.take (e+1))))):=zH (by rw[HFM.out];exact zi HO8.out hb11);have HLn:Hid ((BASE++fmK i key b1 (LK.take (e+1))).length=ln):=zH (by rw[HFM.out];exact HLN.out);have HKn:Hid (Kept (AvB w.heap.size zz) w.heap.size w6 w11):=zH (HKe.out.trans ⟨(HB8.out.trans (hb11.mono (by omega))).mono (by omega),fun g hg=>(HB8.out.trans (hb11.mono (by omega))).block g hg.2⟩);clear hb11 n0 n1 n2 d18 g08 g18 CN z0 z1 z2 hW8 hB8;go_wp2_with fail
                 go_roundw
                 case rel=>exact⟨e+1,ln,al2,cl2,by go_num,by omega,by omega,HLn,HOn,HXn,HKn⟩
                 case measure=>simp[intOf];omega
             . obtain rfl:lk=e:=by omega
               have HLI:Hid (BASE++fmK i key b1 (LK.take lk)=FJN):=zH (by rw[HFN.out,List.take_of_length_le (by rw[HLK.out];exact Nat.le_refl _)]);obtain⟨al3,cl3,hv3,hr3,hn3,_⟩:=zr HO.out;cases hv3;have HRn:Hid (Reads we al2 (ze FJN)):=zH (by rw[<-HLI.out];exact hr3);have HNn:Hid (al2=none->ln=0/\cl2=0):=zH hn3;have HBn:Hid ((al2=ao/\FJN=All)\/∀a,al2=some a->z<=a.block/\a.block<we.heap.size):=zH (.inr fun a ha=>by have h1:=HO.out.lt a.block (by rw[ha];rfl);exact⟨by omega,h1.2⟩);have HLn:Hid (FJN.length=ln):=zH (by rw[<-HLI.out];exact HLN.out);have HKn:Hid (Kept (AvB w.heap.size z) w.heap.size w4 we):=zH (HK46.out.trans (HKe.out.narrow fun g hg=>⟨hg.1,by have:=hg.2;omega⟩));clear hr3 hn3;go_wp2_with fail
               go_roundw
               case rel=>exact⟨j+1,mn,ln,al2,cl2,by go_num,by omega,rfl,by omega,by rw[HFJN.out];exact HLn,HPN,by rw[HFJN.out];exact HRn,HNn,by rw[HFJN.out];exact HBn,HX,HKn⟩
               case measure=>simp[intOf];omega
         |false=>
          have hmn1:mn+1<=11:=by omega
          have xa6:=((zc w6 (.cells #[.int .i64 (i:Int),.int .i64 (key:Int),.int .i64 (b1:Int),.int .i64 0,.string PC] 108)).cell (p:=⟨w.heap.size,6,none⟩) (show w.heap.size<w6.heap.size by have:=HL6.out.1;omega)).trans x6;have HPN:Hid (((U.take (j+1)).foldl (qw k tx1 b1 key) (st,0)).2=mn+1):=zH (by rw[HPJ.out,HPM.out];rfl);go_wp2_with fail
          refine wp_region_noPanic ?_;refine jh (fun w'=>w'.cell? ⟨w.heap.size,6,none⟩=some (.slice al ll cl)/\w'.cell? ⟨w.heap.size+1,1,none⟩=some (.int .i64 (key:Int))/\w'.cell? ⟨gs,0,none⟩=some (.int .i64 (b1:Int))/\w'.cell? ⟨gs,1,none⟩=some (.int .i64 0)/\w'.cell? ⟨bp,op+i,none⟩=some (.string PC)) 19 (by kernel_rfl) ?_;refine zo (i:=0) (v:=.pointer (some ⟨w.heap.size,6,none⟩)) rfl (by kernel_rfl) (by kernel_rfl) (by kernel_rfl) (by kernel_rfl) (fun _ _ _ h=>h) (.inl ⟨rfl,fun W hW=>(by obtain⟨h1,h2,h3,h4,h5⟩:=hW;go_simp)⟩) ⟨x6,d1,g0,g1,p6⟩ ?_
          try simp only[Act.put,List.setIfInBounds_toArray,List.set_cons_zero,List.set_cons_succ]
          refine zo (i:=1) (v:=.slice al ll cl) rfl (by kernel_rfl) (by kernel_rfl) (by kernel_rfl) (by kernel_rfl) (fun _ _ _ h=>h) (.inl ⟨rfl,fun W hW=>(by obtain⟨h1,h2,h3,h4,h5⟩:=hW;go_simp)⟩) ⟨x6,d1,g0,g1,p6⟩ ?_
          try simp only[Act.put,List.setIfInBounds_toArray,List.set_cons_zero,List.set_cons_succ]
          refine zo (i:=2) (v:=.int .i64 (i:Int)) rfl (by kernel_rfl) (by kernel_rfl) (by kernel_rfl) (by kernel_rfl) (fun _ _ _ h=>h) (.inl ⟨rfl,fun W hW=>(by obtain⟨h1,h2,h3,h4,h5⟩:=hW;go_simp)⟩) ⟨x6,d1,g0,g1,p6⟩ ?_
          try simp only[Act.put,List.setIfInBounds_toArray,List.set_cons_zero,List.set_cons_succ]
          refine zo (i:=3) (v:=.pointer (some ⟨w.heap.size+1,1,none⟩)) rfl (by kernel_rfl) (by kernel_rfl) (by kernel_rfl) (by kernel_rfl) (fun _ _ _ h=>h) (.inl ⟨rfl,fun W hW=>(by obtain⟨h1,h2,h3,h4,h5⟩:=hW;go_simp)⟩) ⟨x6,d1,g0,g1,p6⟩ ?_
          try simp only[Act.put,List.setIfInBounds_toArray,List.set_cons_zero,List.set_cons_succ]
          refine zo (i:=4) (v:=.int .i64 (key:Int)) rfl (by kernel_rfl) (by kernel_rfl) (by kernel_rfl) (by kernel_rfl) (fun _ _ _ h=>h) (.inl ⟨rfl,fun W hW=>(by obtain⟨h1,h2,h3,h4,h5⟩:=hW;go_simp)⟩) ⟨x6,d1,g0,g1,p6⟩ ?_
          try simp only[Act.put,List.setIfInBounds_toArray,List.set_cons_zero,List.set_cons_succ]
          refine zo (i:=6) (v:=.int .i64 (i:Int)) rfl (by kernel_rfl) (by kernel_rfl) (by kernel_rfl) (by kernel_rfl) (fun _ _ _ h=>h) (.inl ⟨rfl,fun W hW=>(by obtain⟨h1,h2,h3,h4,h5⟩:=hW;go_simp)⟩) ⟨x6,d1,g0,g1,p6⟩ ?_
          try simp only[Act.put,List.setIfInBounds_toArray,List.set_cons_zero,List.set_cons_succ]
          refine zo (i:=7) (v:=.pointer (some ⟨w.heap.size+1,1,none⟩)) rfl (by kernel_rfl) (by kernel_rfl) (by kernel_rfl) (by kernel_rfl) (fun _ _ _ h=>h) (.inl ⟨rfl,fun W hW=>(by obtain⟨h1,h2,h3,h4,h5⟩:=hW;go_simp)⟩) ⟨x6,d1,g0,g1,p6⟩ ?_
          try simp only[Act.put,List.setIfInBounds_toArray,List.set_cons_zero,List.set_cons_succ]
          refine zo (i:=8) (v:=.int .i64 (key:Int)) rfl (by kernel_rfl) (by kernel_rfl) (by kernel_rfl) (by kernel_rfl) (fun _ _ _ h=>h) (.inl ⟨rfl,fun W hW=>(by obtain⟨h1,h2,h3,h4,h5⟩:=hW;go_simp)⟩) ⟨x6,d1,g0,g1,p6⟩ ?_
          try simp only[Act.put,List.setIfInBounds_toArray,List.set_cons_zero,List.set_cons_succ]
          refine zo (i:=9) (v:=.agg #[.int .i64 (b1:Int),.int .i64 0]) rfl (by kernel_rfl) (by kernel_rfl) (by kernel_rfl) (by kernel_rfl) (fun _ _ _ h=>h) (.inl ⟨rfl,fun W hW=>(by obtain⟨h1,h2,h3,h4,h5⟩:=hW;go_simp)⟩) ⟨x6,d1,g0,g1,p6⟩ ?_
          try simp only[Act.put,List.setIfInBounds_toArray,List.set_cons_zero,List.set_cons_succ]
          refine zo (i:=10) (v:=.slice (some ⟨bp,op,none⟩) n cp) rfl (by kernel_rfl) (by kernel_rfl) (by kernel_rfl) (by kernel_rfl) (fun _ _ _ h=>h) (.inl ⟨rfl,fun W hW=>(by obtain⟨h1,h2,h3,h4,h5⟩:=hW;go_simp)⟩) ⟨x6,d1,g0,g1,p6⟩ ?_
          try simp only[Act.put,List.setIfInBounds_toArray,List.set_cons_zero,List.set_cons_succ]
          refine zo (i:=11) (v:=.int .i64 (i:Int)) rfl (by kernel_rfl) (by kernel_rfl) (by kernel_rfl) (by kernel_rfl) (fun _ _ _ h=>h) (.inl ⟨rfl,fun W hW=>(by obtain⟨h1,h2,h3,h4,h5⟩:=hW;go_simp)⟩) ⟨x6,d1,g0,g1,p6⟩ ?_
          try simp only[Act.put,List.setIfInBounds_toArray,List.set_cons_zero,List.set_cons_succ]
          refine zo (i:=12) (v:=.pointer (some ⟨bp,op+i,none⟩)) rfl (by kernel_rfl) (by kernel_rfl) (by kernel_rfl) (by kernel_rfl) (fun _ _ _ h=>h) (.inl ⟨rfl,fun W hW=>(by obtain⟨h1,h2,h3,h4,h5⟩:=hW;go_simp)⟩) ⟨x6,d1,g0,g1,p6⟩ ?_
          try simp only[Act.put,List.setIfInBounds_toArray,List.set_cons_zero,List.set_cons_succ]
          refine zo (i:=13) (v:=.string PC) rfl (by kernel_rfl) (by kernel_rfl) (by kernel_rfl) (by kernel_rfl) (fun _ _ _ h=>h) (.inl ⟨rfl,fun W hW=>(by obtain⟨h1,h2,h3,h4,h5⟩:=hW;go_simp)⟩) ⟨x6,d1,g0,g1,p6⟩ ?_
          try simp only[Act.put,List.setIfInBounds_toArray,List.set_cons_zero,List.set_cons_succ]
          refine zo (i:=14) (v:=.agg #[.int .i64 (b1:Int),.int .i64 0,.string PC]) rfl (by kernel_rfl) (by kernel_rfl) (by kernel_rfl) (by kernel_rfl) (fun _ _ _ h=>h) (.inl ⟨rfl,fun W hW=>(by obtain⟨h1,h2,h3,h4,h5⟩:=hW;go_simp)⟩) ⟨x6,d1,g0,g1,p6⟩ ?_
          try simp only[Act.put,List.setIfInBounds_toArray,List.set_cons_zero,List.set_cons_succ]
          refine zo (i:=15) (v:=.agg #[.int .i64 (i:Int),.int .i64 (key:Int),.int .i64 (b1:Int),.int .i64 0,.string PC]) rfl (by kernel_rfl) (by kernel_rfl) (by kernel_rfl) (by kernel_rfl) (fun _ _ _ h=>h) (.inl ⟨rfl,fun W hW=>(by obtain⟨h1,h2,h3,h4,h5⟩:=hW;go_simp)⟩) ⟨x6,d1,g0,g1,p6⟩ ?_
          try simp only[Act.put,List.setIfInBounds_toArray,List.set_cons_zero,List.set_cons_succ]
          refine XI (i:=5) (j:=16) (by kernel_rfl) ?_ ?_
          . refine wpOp_step rfl (fun K hK=>?_);have HK':=zH hK;clear hK
            go_simp
            (go_at_call 78;(with_reducible refine(CW.out _ (by repeat(first|(with_reducible exact Below.refl _ _)|(with_reducible apply zb)|(with_reducible apply zg)|(with_reducible refine Below.alloc ?_ (by simp;try omega) _)))).mono ?_))
            rintro e w7 ⟨a7,c7,rfl,ho7,hb7,hbW⟩;have d7:=(hb7.out.cell (p:=⟨w.heap.size+1,1,none⟩) HL6.out.1).trans HD6.out;have g70:=(hb7.out.cell (p:=⟨gs,0,none⟩) HL6.out.2.1).trans HG0.out;have g71:=(hb7.out.cell (p:=⟨gs,1,none⟩) HL6.out.2.1).trans HG1.out;have p7:=(hb7.out.cell (p:=⟨bp,op+i,none⟩) HL6.out.2.2).trans HP6.out;have x7:=(hb7.out.cell (p:=⟨w.heap.size,6,none⟩) (by have:=HL6.out.1;show w.heap.size<w6.heap.size;omega)).trans x6;have HX7:Hid (w7.heap[w.heap.size]?=some (.cells (shC n k wr0 r D mw (.slice al ll cl)) 41 (0,0))):=zH ((hb7.out.block w.heap.size (by have:=HL6.out.1;omega)).trans HX6.out);have HZ7:Hid (zz<=w7.heap.size):=zH (by rw[<-HZZ.out];exact hb7.out.size);refine HK'.out _ _ ⟨fun _=>⟨x7,d7,g70,g71,p7⟩,?_⟩;clear HK' K
            try simp only[Act.put,List.setIfInBounds_toArray,List.set_cons_zero,List.set_cons_succ]
            refine yh (i:=16) (by kernel_rfl) ?_;refine wpOp_step rfl (fun K hK=>?_);have HK':=zH hK;clear hK
            go_simp
            refine HK'.out _ _ ⟨fun _=>⟨yM x7,yM d7,yM g70,yM g71,yM p7⟩,?_⟩;clear HK' K
            try simp only[Act.put,List.setIfInBounds_toArray,List.set_cons_zero,List.set_cons_succ]
            refine yh (i:=17) (by kernel_rfl) ?_;refine wpOp_step rfl (fun K hK=>?_);have HK':=zH hK;clear hK;refine qJ ?_ (.tmp 158) (.tmp 169) 39 ?_ zz 108 _ 5 48 Tryz.underlying39 qI (.slice a7 lo c7) lo _ ?_ w7 ho7.out HZ7.out ?_ ?_ #[.int .i64 (i:Int),.int .i64 (key:Int),.int .i64 (b1:Int),.int .i64 0,.string PC] ?_ ?_ rfl ?_ hm1.out hm2.out ?_;(focus rfl);(focus rfl);(focus rfl);(focus (repeat(first|(with_reducible exact Below.refl _ _)|(with_reducible apply zb)|(with_reducible apply zg)|(with_reducible refine Below.alloc ?_ (by simp;try omega) _)|fail)));rotate_left;(focus rfl);(focus (repeat(first|(with_reducible exact zl _ _ _ (by simp;try omega))|(with_reducible apply yu)|(with_reducible apply yO)|(with_reducible refine(hbW.out.block _ (by simp;try omega)).trans ?_)|(with_reducible apply za)|fail)));(focus (intro u hu;simp at hu;rcases hu with rfl|rfl|rfl|rfl|rfl<;>rfl));intro g9 c9 w9 hown9 hgr9 hat9;have hno:∀g,g<zz->some g≠(Value.slice a7 lo c7).ownBlock:=(fun g hg e=>by have:=(ho7.out.lt g e.symm).1;omega)
            have d9:=hgr9.cell d7 (hno (w.heap.size+1) (by omega));have g90:=hgr9.cell g70 (hno gs (by omega));have g91:=hgr9.cell g71 (hno gs (by omega));have p9:=hgr9.cell p7 (hno bp (by omega));have HX9:Hid (w9.heap[w.heap.size]?=some (.cells (shC n k wr0 r D mw (.slice al ll cl)) 41 (0,0))):=zH ((hgr9.block w.heap.size (by have:=HZ7.out;omega) (hno w.heap.size (by omega))).trans HX7.out);have x69:w9.cell? ⟨w.heap.size,6,none⟩=some (.slice al ll cl):=(zd HX9.out 6).trans rfl;have fx69:=zm HX9.out 6;have HK9:Hid (∀v,Kept (AvB w.heap.size zz) w.heap.size w6 (w9.setCell ⟨w.heap.size,6,none⟩ v)):=zH (fun v=>vZ (by rw[<-HZZ.out];exact hb7.out) (by omega) HZ7.out hgr9 (fun q hq=>(ho7.out.lt q hq).1) v);have HO9:=zH hown9;clear hno hown9 hgr9 hat9;refine HK'.out _ _ ⟨fun _=>⟨x69,d9,g90,g91,p9⟩,?_⟩;clear HK' K
            try simp only[Act.put,List.setIfInBounds_toArray,List.set_cons_zero,List.set_cons_succ]
            refine yh (i:=18) (by kernel_rfl) ?_;refine wpOp_step rfl (fun K hK=>?_);have HK':=zH hK;clear hK
            go_simp
            refine HK'.out _ _ ⟨fun _=>⟨x69,d9,g90,g91,p9⟩,?_⟩;clear HK' K
            try simp only[Act.put,List.setIfInBounds_toArray,List.set_cons_zero,List.set_cons_succ]
            refine yh (i:=19) (by kernel_rfl) ?_;refine wpOp_step rfl (fun K hK=>?_);have HK':=zH hK;clear hK
            go_simp
            refine HK'.out _ _ ⟨fun h=>absurd rfl h,?_⟩;clear HK' K;refine jg (by kernel_rfl) (NoPanic.normal ?_) 0;obtain⟨W10,hW10⟩:∃W10,w9.setCell ⟨w.heap.size,6,none⟩ (.slice (some ⟨g9,0,none⟩) (lo+1) c9)=W10:=⟨_,rfl⟩
            have HK10:Hid (Kept (AvB w.heap.size zz) w.heap.size w6 W10):=zH (by rw[<-hW10];exact HK9.out _);have HX10:Hid (W10.heap[w.heap.size]?=some (.cells (shC n k wr0 r D mw (.slice (some ⟨g9,0,none⟩) (lo+1) c9)) 41 (0,0))):=zH (by rw[<-hW10,heap_set _ HX9.out];rfl);have HO10:Hid (W10.ownsRow zz 108 5 (.slice (some ⟨g9,0,none⟩) (lo+1) c9) (lo+1) (ze BASE)):=zH (by
             rw[<-hW10,<-HBE.out,yG];exact HO9.out.kept (zO _ _ _ _) (.inr (fun h=>by have:=(HO9.out.lt _ h).1;omega)))
            clear xa6 HX9 HO9 HK9 x69 fx69 d9 g90 g91 p9 d7 g70 g71 p7;go_wp2_with fail
            go_loopw [174] (fun ve wr=>∃(e ln:Nat) (al2:Option Addr) (cl2:Nat),ve=.int .i64 e/\e<=lk/\ln<=lo+1+e/\Hid ((BASE++fmK i key b1 (LK.take e)).length=ln)/\Hid (wr.ownsRow zz 108 5 (.slice al2 ln cl2) ln (ze (BASE++fmK i key b1 (LK.take e))))/\Hid (wr.heap[w.heap.size]?=some (.cells (shC n k wr0 r D mw (.slice al2 ln cl2)) 41 (0,0)))/\Hid (Kept (AvB w.heap.size zz) w.heap.size w6 wr)) (fun ve _=>lk-(intOf ve).toNat)
            case atStart=>exact⟨0,lo+1,some ⟨g9,0,none⟩,c9,rfl,by omega,by omega,zH (by rw[List.take_zero];show(BASE++[]).length=_;rw[List.append_nil];exact HBL.out),zH (by rw[List.take_zero];show World.ownsRow _ _ _ _ _ _ (ze (BASE++[]));rw[List.append_nil];exact HO10.out),HX10,HK10⟩
            case round=>
             clear HO10 HX10 HK10;obtain⟨e,ln,al2,cl2,rfl,he,hln,HLN,HO,HX,HKe⟩:=hrel;obtain⟨we,rfl⟩:∃we,we=wr:=⟨_,rfl⟩
             have HBe:Hid (zz<=we.heap.size):=zH (by rw[<-HZZ.out];exact HKe.out.bel.size);by_cases hel:e<lk
             . obtain⟨bk,ok,hrk,z0,z1,z2⟩:=y9 (vM HKe.out HZZ.out HR6.out HAK6.out) (k:=e) (by rw[HLK.out];exact hel);cases hrk;obtain⟨x,hx⟩:∃x,LK[e]'(by rw[HLK.out];exact hel)=x:=⟨_,rfl⟩
               have HXx:Hid (LK[e]?=some x):=zH (by rw[List.getElem?_eq_getElem (by rw[HLK.out];exact hel),hx]);rw[hx]at z0 z2;obtain⟨a2,s2⟩:=x;have d1e:=HKe.out.cell (g:=w.heap.size+1) ⟨by omega,by omega⟩ HD6.out;have g0e:=HKe.out.cell (g:=gs) ⟨by omega,by omega⟩ HG0.out;have g1e:=HKe.out.cell (g:=gs) ⟨by omega,by omega⟩ HG1.out;obtain⟨W8,hW8⟩:∃W8,we.alloc (.cells #[.int .i64 (a2:Int),.int .i64 0,.string s2] 106)=W8:=⟨_,rfl⟩
               have hb8:Below we.heap.size we W8:=by rw[<-hW8];exact zc _ _
               obtain⟨B8,hB8⟩:∃B8,we.heap.size=B8:=⟨_,rfl⟩
               have n0:W8.cell? ⟨B8,0,none⟩=some (.int .i64 (a2:Int)):=by rw[<-hW8,<-hB8];simp[World.cell?_alloc_new]
               have n1:W8.cell? ⟨B8,1,none⟩=some (.int .i64 0):=by rw[<-hW8,<-hB8];simp[World.cell?_alloc_new]
               have n2:W8.cell? ⟨B8,2,none⟩=some (.string s2):=by rw[<-hW8,<-hB8];simp[World.cell?_alloc_new]
               have hsz8:B8<W8.heap.size:=by rw[<-hW8,<-hB8];simp
               have hzb:zz<=B8:=by rw[<-hB8];exact HBe.out
               have d18:=(hb8.cell (p:=⟨w.heap.size+1,1,none⟩) (by have:=HBe.out;show w.heap.size+1<we.heap.size;omega)).trans d1e;have g08:=(hb8.cell (p:=⟨gs,0,none⟩) (by have:=HBe.out;show gs<we.heap.size;omega)).trans g0e;have g18:=(hb8.cell (p:=⟨gs,1,none⟩) (by have:=HBe.out;show gs<we.heap.size;omega)).trans g1e;have HX8:Hid (W8.heap[w.heap.size]?=some (.cells (shC n k wr0 r D mw (.slice al2 ln cl2)) 41 (0,0))):=zH (by rw[<-hW8];exact za _ _ HX.out);have HO8:Hid (W8.ownsRow zz 108 5 (.slice al2 ln cl2) ln (ze (BASE++fmK i key b1 (LK.take e)))):=zH (zi HO.out hb8);have HB8:Hid (Below zz we W8):=zH (hb8.mono HBe.out);have HSZ8:=zH hsz8;have CN:=zH (fun W=>jw (a2:Int) 0 (b1:Int) 0 W);rw[jx]at CN;clear hx hb8 d1e g0e g1e;by_cases hba:b1<a2
               . have hd:decide (b1<a2)=true:=decide_eq_true hba;rw[hd]at CN;have HFM:Hid (fmK i key b1 (LK.take (e+1))=fmK i key b1 (LK.take e)++[(i,key,a2,s2)]):=zH (Ym HXx.out hba);clear hba hd;go_wp2_with fail
                 (with_reducible refine(CN.out _).mono ?_)
                 rintro e' w11 ⟨rfl,hb11⟩;have n0':=(hb11.cell (p:=⟨B8,0,none⟩) HSZ8.out).trans n0;have n1':=(hb11.cell (p:=⟨B8,1,none⟩) HSZ8.out).trans n1;have n2':=(hb11.cell (p:=⟨B8,2,none⟩) HSZ8.out).trans n2;have d11:=(hb11.cell (p:=⟨w.heap.size+1,1,none⟩) (show w.heap.size+1<W8.heap.size by omega)).trans d18;have HX11:Hid (w11.heap[w.heap.size]?=some (.cells (shC n k wr0 r D mw (.slice al2 ln cl2)) 41 (0,0))):=zH ((hb11.block w.heap.size (by omega)).trans HX8.out);have x611:=zd HX11.out 6;simp only[List.getElem?_toArray,List.getElem?_cons_zero,List.getElem?_cons_succ]at x611;have HO11:=zH (zi HO8.out hb11);have HB11:Hid (Below zz we w11):=zH (HB8.out.trans (hb11.mono (by omega)));have HZ11:Hid (zz<=w11.heap.size):=zH (by have:=hb11.size;omega);clear hb11 n0 n1 n2 d18 g08 g18 CN z0 z1 z2 hW8 hB8;go_wp2_with (first
                  |(at_builtin;go_loud (refine yr rfl (.tmp 183) (.tmp 189) 39 rfl zz 108 _ 5 48 Tryz.underlying39 qI _ _ _ (by rfl) HO11.out [.int .i64 (i:Int),.int .i64 (key:Int),.int .i64 (a2:Int),.int .i64 0,.string s2] (by rfl) rfl (by intro u hu;simp at hu;rcases hu with rfl|rfl|rfl|rfl|rfl<;>rfl) (by unfold maxLen;omega) (by omega) HZ11.out ?_);intro v12 w12 hown12 hgr12 hb12;obtain⟨a12,c12,hv12,hr12,hn12,_⟩:=zr hown12;subst hv12;have x612:=(hb12.cell (p:=⟨w.heap.size,6,none⟩) (show w.heap.size<zz by omega)).trans x611;have fx612:w12.frozen? ⟨w.heap.size,6,none⟩=false:=(kI (hb12.block w.heap.size (by omega))).trans (zm HX11.out 6);have HX12:Hid (w12.heap[w.heap.size]?=some (.cells (shC n k wr0 r D mw (.slice al2 ln cl2)) 41 (0,0))):=zH ((hb12.block w.heap.size (by omega)).trans HX11.out);have HO12:=zH hown12;have HB12z:Hid (Below zz we w12):=zH (HB11.out.trans hb12);clear hown12 hgr12 hb12 hr12 hn12)
                  |fail)
                 have HOn:Hid ((w12.setCell ⟨w.heap.size,6,none⟩ (.slice a12 (ln+1) c12)).ownsRow zz 108 5 (.slice a12 (ln+1) c12) (ln+1) (ze (BASE++fmK i key b1 (LK.take (e+1))))):=zH (by
                  rw[HFM.out,<-List.append_assoc,yG];exact HO12.out.kept (zO _ _ _ _) (.inr (fun h=>by have:=(HO12.out.lt _ h).1;omega)))
                 have HXn:Hid ((w12.setCell ⟨w.heap.size,6,none⟩ (.slice a12 (ln+1) c12)).heap[w.heap.size]?=some (.cells (shC n k wr0 r D mw (.slice a12 (ln+1) c12)) 41 (0,0))):=zH (by rw[heap_set _ HX12.out];rfl);have HKn:Hid (Kept (AvB w.heap.size zz) w.heap.size w6 (w12.setCell ⟨w.heap.size,6,none⟩ (.slice a12 (ln+1) c12))):=zH (HKe.out.trans (vZ HB12z.out (by omega) (by have:=HB12z.out.size;have:=HBe.out;omega) (World.grownBy.refl w12 none) (fun q hq=>by cases hq) _));have HLn:Hid ((BASE++fmK i key b1 (LK.take (e+1))).length=ln+1):=zH (by rw[HFM.out,<-List.append_assoc,List.length_append,HLN.out];rfl);go_wp2_with fail
                 go_roundw
                 case rel=>exact⟨e+1,ln+1,a12,c12,by go_num,by omega,by omega,HLn,HOn,HXn,HKn⟩
                 case measure=>simp[intOf];omega
               . have hd:decide (b1<a2)=false:=decide_eq_false hba;rw[hd]at CN;have HFM:Hid (fmK i key b1 (LK.take (e+1))=fmK i key b1 (LK.take e)):=zH (Ku HXx.out hba);clear hba hd;go_wp2_with fail
                 (with_reducible refine(CN.out _).mono ?_)
                 rintro e' w11 ⟨rfl,hb11⟩;have HXn:Hid (w11.heap[w.heap.size]?=some (.cells (shC n k wr0 r D mw (.slice al2 ln cl2)) 41 (0,0))):=zH ((hb11.block w.heap.size (by omega)).trans HX8.out);have HOn:Hid (w11.ownsRow zz 108 5 (.slice al2 ln cl2) ln (ze (BASE++fmK i key b1 (LK.take (e+1))))):=zH (by rw[HFM.out];exact zi HO8.out hb11);have HLn:Hid ((BASE++fmK i key b1 (LK.take (e+1))).length=ln):=zH (by rw[HFM.out];exact HLN.out);have HKn:Hid (Kept (AvB w.heap.size zz) w.heap.size w6 w11):=zH (HKe.out.trans ⟨(HB8.out.trans (hb11.mono (by omega))).mono (by omega),fun g hg=>(HB8.out.trans (hb11.mono (by omega))).block g hg.2⟩);clear hb11 n0 n1 n2 d18 g08 g18 CN z0 z1 z2 hW8 hB8;go_wp2_with fail
                 go_roundw
                 case rel=>exact⟨e+1,ln,al2,cl2,by go_num,by omega,by omega,HLn,HOn,HXn,HKn⟩
                 case measure=>simp[intOf];omega
             . obtain rfl:lk=e:=by omega
               have HLI:Hid (BASE++fmK i key b1 (LK.take lk)=FJN):=zH (by rw[HFN.out,List.take_of_length_le (by rw[HLK.out];exact Nat.le_refl _)]);obtain⟨al3,cl3,hv3,hr3,hn3,_⟩:=zr HO.out;cases hv3;have HRn:Hid (Reads we al2 (ze FJN)):=zH (by rw[<-HLI.out];exact hr3);have HNn:Hid (al2=none->ln=0/\cl2=0):=zH hn3;have HBn:Hid ((al2=ao/\FJN=All)\/∀a,al2=some a->z<=a.block/\a.block<we.heap.size):=zH (.inr fun a ha=>by have h1:=HO.out.lt a.block (by rw[ha];rfl);exact⟨by omega,h1.2⟩);have HLn:Hid (FJN.length=ln):=zH (by rw[<-HLI.out];exact HLN.out);have HKn:Hid (Kept (AvB w.heap.size z) w.heap.size w4 we):=zH (HK46.out.trans (HKe.out.narrow fun g hg=>⟨hg.1,by have:=hg.2;omega⟩));clear hr3 hn3;go_wp2_with fail
               go_roundw
               case rel=>exact⟨j+1,mn+1,ln,al2,cl2,by go_num,by omega,by go_num,by omega,by rw[HFJN.out];exact HLn,HPN,by rw[HFJN.out];exact HRn,HNn,by rw[HFJN.out];exact HBn,HX,HKn⟩
               case measure=>simp[intOf];omega
          . refine wpOp_step rfl (fun K hK=>?_);have HK':=zH hK;clear hK
            go_simp
            refine HK'.out _ _ ⟨fun _=>⟨yM x6,yM d1,yM g0,yM g1,yM p6⟩,?_⟩;clear HK' K
            try simp only[Act.put,List.setIfInBounds_toArray,List.set_cons_zero,List.set_cons_succ]
            refine yh (i:=5) (by kernel_rfl) ?_;refine wpOp_step rfl (fun K hK=>?_);have HK':=zH hK;clear hK
            go_simp
            (go_at_call 78;(with_reducible refine(CW.out _ (by repeat(first|(with_reducible exact Below.refl _ _)|(with_reducible apply zb)|(with_reducible apply zg)|(with_reducible refine Below.alloc ?_ (by simp;try omega) _)))).mono ?_))
            rintro e w7 ⟨a7,c7,rfl,ho7,hb7,hbW⟩;have d7:=(hb7.out.cell (p:=⟨w.heap.size+1,1,none⟩) HL6.out.1).trans HD6.out;have g70:=(hb7.out.cell (p:=⟨gs,0,none⟩) HL6.out.2.1).trans HG0.out;have g71:=(hb7.out.cell (p:=⟨gs,1,none⟩) HL6.out.2.1).trans HG1.out;have p7:=(hb7.out.cell (p:=⟨bp,op+i,none⟩) HL6.out.2.2).trans HP6.out;have x7:=(hb7.out.cell (p:=⟨w.heap.size,6,none⟩) (by have:=HL6.out.1;show w.heap.size<w6.heap.size;omega)).trans x6;have HX7:Hid (w7.heap[w.heap.size]?=some (.cells (shC n k wr0 r D mw (.slice al ll cl)) 41 (0,0))):=zH ((hb7.out.block w.heap.size (by have:=HL6.out.1;omega)).trans HX6.out);have HZ7:Hid (zz<=w7.heap.size):=zH (by rw[<-HZZ.out];exact hb7.out.size);refine HK'.out _ _ ⟨fun _=>⟨x7,d7,g70,g71,p7⟩,?_⟩;clear HK' K
            try simp only[Act.put,List.setIfInBounds_toArray,List.set_cons_zero,List.set_cons_succ]
            refine yh (i:=17) (by kernel_rfl) ?_;refine wpOp_step rfl (fun K hK=>?_);have HK':=zH hK;clear hK;refine qJ ?_ (.tmp 158) (.tmp 169) 39 ?_ zz 108 _ 5 48 Tryz.underlying39 qI (.slice a7 lo c7) lo _ ?_ w7 ho7.out HZ7.out ?_ ?_ #[.int .i64 (i:Int),.int .i64 (key:Int),.int .i64 (b1:Int),.int .i64 0,.string PC] ?_ ?_ rfl ?_ hm1.out hm2.out ?_;(focus rfl);(focus rfl);(focus rfl);(focus (repeat(first|(with_reducible exact Below.refl _ _)|(with_reducible apply zb)|(with_reducible apply zg)|(with_reducible refine Below.alloc ?_ (by simp;try omega) _)|fail)));rotate_left;(focus rfl);(focus (repeat(first|(with_reducible exact zl _ _ _ (by simp;try omega))|(with_reducible apply yu)|(with_reducible apply yO)|(with_reducible refine(hbW.out.block _ (by simp;try omega)).trans ?_)|(with_reducible apply za)|fail)));(focus (intro u hu;simp at hu;rcases hu with rfl|rfl|rfl|rfl|rfl<;>rfl));intro g9 c9 w9 hown9 hgr9 hat9;have hno:∀g,g<zz->some g≠(Value.slice a7 lo c7).ownBlock:=(fun g hg e=>by have:=(ho7.out.lt g e.symm).1;omega)
            have d9:=hgr9.cell d7 (hno (w.heap.size+1) (by omega));have g90:=hgr9.cell g70 (hno gs (by omega));have g91:=hgr9.cell g71 (hno gs (by omega));have p9:=hgr9.cell p7 (hno bp (by omega));have HX9:Hid (w9.heap[w.heap.size]?=some (.cells (shC n k wr0 r D mw (.slice al ll cl)) 41 (0,0))):=zH ((hgr9.block w.heap.size (by have:=HZ7.out;omega) (hno w.heap.size (by omega))).trans HX7.out);have x69:w9.cell? ⟨w.heap.size,6,none⟩=some (.slice al ll cl):=(zd HX9.out 6).trans rfl;have fx69:=zm HX9.out 6;have HK9:Hid (∀v,Kept (AvB w.heap.size zz) w.heap.size w6 (w9.setCell ⟨w.heap.size,6,none⟩ v)):=zH (fun v=>vZ (by rw[<-HZZ.out];exact hb7.out) (by omega) HZ7.out hgr9 (fun q hq=>(ho7.out.lt q hq).1) v);have HO9:=zH hown9;clear hno hown9 hgr9 hat9;refine HK'.out _ _ ⟨fun _=>⟨x69,d9,g90,g91,p9⟩,?_⟩;clear HK' K
            try simp only[Act.put,List.setIfInBounds_toArray,List.set_cons_zero,List.set_cons_succ]
            refine yh (i:=18) (by kernel_rfl) ?_;refine wpOp_step rfl (fun K hK=>?_);have HK':=zH hK;clear hK
            go_simp
            refine HK'.out _ _ ⟨fun _=>⟨x69,d9,g90,g91,p9⟩,?_⟩;clear HK' K
            try simp only[Act.put,List.setIfInBounds_toArray,List.set_cons_zero,List.set_cons_succ]
            refine yh (i:=19) (by kernel_rfl) ?_;refine wpOp_step rfl (fun K hK=>?_);have HK':=zH hK;clear hK
            go_simp
            refine HK'.out _ _ ⟨fun h=>absurd rfl h,?_⟩;clear HK' K;refine jg (by kernel_rfl) (NoPanic.normal ?_) 0;obtain⟨W10,hW10⟩:∃W10,w9.setCell ⟨w.heap.size,6,none⟩ (.slice (some ⟨g9,0,none⟩) (lo+1) c9)=W10:=⟨_,rfl⟩
            have HK10:Hid (Kept (AvB w.heap.size zz) w.heap.size w6 W10):=zH (by rw[<-hW10];exact HK9.out _);have HX10:Hid (W10.heap[w.heap.size]?=some (.cells (shC n k wr0 r D mw (.slice (some ⟨g9,0,none⟩) (lo+1) c9)) 41 (0,0))):=zH (by rw[<-hW10,heap_set _ HX9.out];rfl);have HO10:Hid (W10.ownsRow zz 108 5 (.slice (some ⟨g9,0,none⟩) (lo+1) c9) (lo+1) (ze BASE)):=zH (by
             rw[<-hW10,<-HBE.out,yG];exact HO9.out.kept (zO _ _ _ _) (.inr (fun h=>by have:=(HO9.out.lt _ h).1;omega)))
            clear xa6 HX9 HO9 HK9 x69 fx69 d9 g90 g91 p9 d7 g70 g71 p7;go_wp2_with fail
            go_loopw [174] (fun ve wr=>∃(e ln:Nat) (al2:Option Addr) (cl2:Nat),ve=.int .i64 e/\e<=lk/\ln<=lo+1+e/\Hid ((BASE++fmK i key b1 (LK.take e)).length=ln)/\Hid (wr.ownsRow zz 108 5 (.slice al2 ln cl2) ln (ze (BASE++fmK i key b1 (LK.take e))))/\Hid (wr.heap[w.heap.size]?=some (.cells (shC n k wr0 r D mw (.slice al2 ln cl2)) 41 (0,0)))/\Hid (Kept (AvB w.heap.size zz) w.heap.size w6 wr)) (fun ve _=>lk-(intOf ve).toNat)
            case atStart=>exact⟨0,lo+1,some ⟨g9,0,none⟩,c9,rfl,by omega,by omega,zH (by rw[List.take_zero];show(BASE++[]).length=_;rw[List.append_nil];exact HBL.out),zH (by rw[List.take_zero];show World.ownsRow _ _ _ _ _ _ (ze (BASE++[]));rw[List.append_nil];exact HO10.out),HX10,HK10⟩
            case round=>
             clear HO10 HX10 HK10;obtain⟨e,ln,al2,cl2,rfl,he,hln,HLN,HO,HX,HKe⟩:=hrel;obtain⟨we,rfl⟩:∃we,we=wr:=⟨_,rfl⟩
             have HBe:Hid (zz<=we.heap.size):=zH (by rw[<-HZZ.out];exact HKe.out.bel.size);by_cases hel:e<lk
             . obtain⟨bk,ok,hrk,z0,z1,z2⟩:=y9 (vM HKe.out HZZ.out HR6.out HAK6.out) (k:=e) (by rw[HLK.out];exact hel);cases hrk;obtain⟨x,hx⟩:∃x,LK[e]'(by rw[HLK.out];exact hel)=x:=⟨_,rfl⟩
               have HXx:Hid (LK[e]?=some x):=zH (by rw[List.getElem?_eq_getElem (by rw[HLK.out];exact hel),hx]);rw[hx]at z0 z2;obtain⟨a2,s2⟩:=x;have d1e:=HKe.out.cell (g:=w.heap.size+1) ⟨by omega,by omega⟩ HD6.out;have g0e:=HKe.out.cell (g:=gs) ⟨by omega,by omega⟩ HG0.out;have g1e:=HKe.out.cell (g:=gs) ⟨by omega,by omega⟩ HG1.out;obtain⟨W8,hW8⟩:∃W8,we.alloc (.cells #[.int .i64 (a2:Int),.int .i64 0,.string s2] 106)=W8:=⟨_,rfl⟩
               have hb8:Below we.heap.size we W8:=by rw[<-hW8];exact zc _ _
               obtain⟨B8,hB8⟩:∃B8,we.heap.size=B8:=⟨_,rfl⟩
               have n0:W8.cell? ⟨B8,0,none⟩=some (.int .i64 (a2:Int)):=by rw[<-hW8,<-hB8];simp[World.cell?_alloc_new]
               have n1:W8.cell? ⟨B8,1,none⟩=some (.int .i64 0):=by rw[<-hW8,<-hB8];simp[World.cell?_alloc_new]
               have n2:W8.cell? ⟨B8,2,none⟩=some (.string s2):=by rw[<-hW8,<-hB8];simp[World.cell?_alloc_new]
               have hsz8:B8<W8.heap.size:=by rw[<-hW8,<-hB8];simp
               have hzb:zz<=B8:=by rw[<-hB8];exact HBe.out
               have d18:=(hb8.cell (p:=⟨w.heap.size+1,1,none⟩) (by have:=HBe.out;show w.heap.size+1<we.heap.size;omega)).trans d1e;have g08:=(hb8.cell (p:=⟨gs,0,none⟩) (by have:=HBe.out;show gs<we.heap.size;omega)).trans g0e;have g18:=(hb8.cell (p:=⟨gs,1,none⟩) (by have:=HBe.out;show gs<we.heap.size;omega)).trans g1e;have HX8:Hid (W8.heap[w.heap.size]?=some (.cells (shC n k wr0 r D mw (.slice al2 ln cl2)) 41 (0,0))):=zH (by rw[<-hW8];exact za _ _ HX.out);have HO8:Hid (W8.ownsRow zz 108 5 (.slice al2 ln cl2) ln (ze (BASE++fmK i key b1 (LK.take e)))):=zH (zi HO.out hb8);have HB8:Hid (Below zz we W8):=zH (hb8.mono HBe.out);have HSZ8:=zH hsz8;have CN:=zH (fun W=>jw (a2:Int) 0 (b1:Int) 0 W);rw[jx]at CN;clear hx hb8 d1e g0e g1e;by_cases hba:b1<a2
               . have hd:decide (b1<a2)=true:=decide_eq_true hba;rw[hd]at CN;have HFM:Hid (fmK i key b1 (LK.take (e+1))=fmK i key b1 (LK.take e)++[(i,key,a2,s2)]):=zH (Ym HXx.out hba);clear hba hd;go_wp2_with fail
                 (with_reducible refine(CN.out _).mono ?_)
                 rintro e' w11 ⟨rfl,hb11⟩;have n0':=(hb11.cell (p:=⟨B8,0,none⟩) HSZ8.out).trans n0;have n1':=(hb11.cell (p:=⟨B8,1,none⟩) HSZ8.out).trans n1;have n2':=(hb11.cell (p:=⟨B8,2,none⟩) HSZ8.out).trans n2;have d11:=(hb11.cell (p:=⟨w.heap.size+1,1,none⟩) (show w.heap.size+1<W8.heap.size by omega)).trans d18;have HX11:Hid (w11.heap[w.heap.size]?=some (.cells (shC n k wr0 r D mw (.slice al2 ln cl2)) 41 (0,0))):=zH ((hb11.block w.heap.size (by omega)).trans HX8.out);have x611:=zd HX11.out 6;simp only[List.getElem?_toArray,List.getElem?_cons_zero,List.getElem?_cons_succ]at x611;have HO11:=zH (zi HO8.out hb11);have HB11:Hid (Below zz we w11):=zH (HB8.out.trans (hb11.mono (by omega)));have HZ11:Hid (zz<=w11.heap.size):=zH (by have:=hb11.size;omega);clear hb11 n0 n1 n2 d18 g08 g18 CN z0 z1 z2 hW8 hB8;go_wp2_with (first
                  |(at_builtin;go_loud (refine yr rfl (.tmp 183) (.tmp 189) 39 rfl zz 108 _ 5 48 Tryz.underlying39 qI _ _ _ (by rfl) HO11.out [.int .i64 (i:Int),.int .i64 (key:Int),.int .i64 (a2:Int),.int .i64 0,.string s2] (by rfl) rfl (by intro u hu;simp at hu;rcases hu with rfl|rfl|rfl|rfl|rfl<;>rfl) (by unfold maxLen;omega) (by omega) HZ11.out ?_);intro v12 w12 hown12 hgr12 hb12;obtain⟨a12,c12,hv12,hr12,hn12,_⟩:=zr hown12;subst hv12;have x612:=(hb12.cell (p:=⟨w.heap.size,6,none⟩) (show w.heap.size<zz by omega)).trans x611;have fx612:w12.frozen? ⟨w.heap.size,6,none⟩=false:=(kI (hb12.block w.heap.size (by omega))).trans (zm HX11.out 6);have HX12:Hid (w12.heap[w.heap.size]?=some (.cells (shC n k wr0 r D mw (.slice al2 ln cl2)) 41 (0,0))):=zH ((hb12.block w.heap.size (by omega)).trans HX11.out);have HO12:=zH hown12;have HB12z:Hid (Below zz we w12):=zH (HB11.out.trans hb12);clear hown12 hgr12 hb12 hr12 hn12)
                  |fail)
                 have HOn:Hid ((w12.setCell ⟨w.heap.size,6,none⟩ (.slice a12 (ln+1) c12)).ownsRow zz 108 5 (.slice a12 (ln+1) c12) (ln+1) (ze (BASE++fmK i key b1 (LK.take (e+1))))):=zH (by
                  rw[HFM.out,<-List.append_assoc,yG];exact HO12.out.kept (zO _ _ _ _) (.inr (fun h=>by have:=(HO12.out.lt _ h).1;omega)))
                 have HXn:Hid ((w12.setCell ⟨w.heap.size,6,none⟩ (.slice a12 (ln+1) c12)).heap[w.heap.size]?=some (.cells (shC n k wr0 r D mw (.slice a12 (ln+1) c12)) 41 (0,0))):=zH (by rw[heap_set _ HX12.out];rfl);have HKn:Hid (Kept (AvB w.heap.size zz) w.heap.size w6 (w12.setCell ⟨w.heap.size,6,none⟩ (.slice a12 (ln+1) c12))):=zH (HKe.out.trans (vZ HB12z.out (by omega) (by have:=HB12z.out.size;have:=HBe.out;omega) (World.grownBy.refl w12 none) (fun q hq=>by cases hq) _));have HLn:Hid ((BASE++fmK i key b1 (LK.take (e+1))).length=ln+1):=zH (by rw[HFM.out,<-List.append_assoc,List.length_append,HLN.out];rfl);go_wp2_with fail
                 go_roundw
                 case rel=>exact⟨e+1,ln+1,a12,c12,by go_num,by omega,by omega,HLn,HOn,HXn,HKn⟩
                 case measure=>simp[intOf];omega
               . have hd:decide (b1<a2)=false:=decide_eq_false hba;rw[hd]at CN;have HFM:Hid (fmK i key b1 (LK.take (e+1))=fmK i key b1 (LK.take e)):=zH (Ku HXx.out hba);clear hba hd;go_wp2_with fail
                 (with_reducible refine(CN.out _).mono ?_)
                 rintro e' w11 ⟨rfl,hb11⟩;have HXn:Hid (w11.heap[w.heap.size]?=some (.cells (shC n k wr0 r D mw (.slice al2 ln cl2)) 41 (0,0))):=zH ((hb11.block w.heap.size (by omega)).trans HX8.out);have HOn:Hid (w11.ownsRow zz 108 5 (.slice al2 ln cl2) ln (ze (BASE++fmK i key b1 (LK.take (e+1))))):=zH (by rw[HFM.out];exact zi HO8.out hb11);have HLn:Hid ((BASE++fmK i key b1 (LK.take (e+1))).length=ln):=zH (by rw[HFM.out];exact HLN.out);have HKn:Hid (Kept (AvB w.heap.size zz) w.heap.size w6 w11):=zH (HKe.out.trans ⟨(HB8.out.trans (hb11.mono (by omega))).mono (by omega),fun g hg=>(HB8.out.trans (hb11.mono (by omega))).block g hg.2⟩);clear hb11 n0 n1 n2 d18 g08 g18 CN z0 z1 z2 hW8 hB8;go_wp2_with fail
                 go_roundw
                 case rel=>exact⟨e+1,ln,al2,cl2,by go_num,by omega,by omega,HLn,HOn,HXn,HKn⟩
                 case measure=>simp[intOf];omega
             . obtain rfl:lk=e:=by omega
               have HLI:Hid (BASE++fmK i key b1 (LK.take lk)=FJN):=zH (by rw[HFN.out,List.take_of_length_le (by rw[HLK.out];exact Nat.le_refl _)]);obtain⟨al3,cl3,hv3,hr3,hn3,_⟩:=zr HO.out;cases hv3;have HRn:Hid (Reads we al2 (ze FJN)):=zH (by rw[<-HLI.out];exact hr3);have HNn:Hid (al2=none->ln=0/\cl2=0):=zH hn3;have HBn:Hid ((al2=ao/\FJN=All)\/∀a,al2=some a->z<=a.block/\a.block<we.heap.size):=zH (.inr fun a ha=>by have h1:=HO.out.lt a.block (by rw[ha];rfl);exact⟨by omega,h1.2⟩);have HLn:Hid (FJN.length=ln):=zH (by rw[<-HLI.out];exact HLN.out);have HKn:Hid (Kept (AvB w.heap.size z) w.heap.size w4 we):=zH (HK46.out.trans (HKe.out.narrow fun g hg=>⟨hg.1,by have:=hg.2;omega⟩));clear hr3 hn3;go_wp2_with fail
               go_roundw
               case rel=>exact⟨j+1,mn+1,ln,al2,cl2,by go_num,by omega,by go_num,by omega,by rw[HFJN.out];exact HLn,HPN,by rw[HFJN.out];exact HRn,HNn,by rw[HFJN.out];exact HBn,HX,HKn⟩
               case measure=>simp[intOf];omega
      . obtain rfl:u=j:=by omega
        have HUT:Hid (U.take u=U):=zH (List.take_of_length_le (by rw[HUL.out];exact Nat.le_refl _));rw[HUT.out]at HLL HPM HRl HBl HSJ;obtain⟨FU,hFU⟩:∃FU,U.foldl (jo k tx1 b1 key) All=FU:=⟨_,rfl⟩
        rw[hFU]at HLL HRl HBl HSJ;obtain⟨PU,hPU⟩:∃PU,U.foldl (qw k tx1 b1 key) (st,0)=PU:=⟨_,rfl⟩
        rw[hPU]at HPM HSJ;have HWR:Hid (PU.1.wr=mw):=zH (by
         have h1:=(Kh (key:=key) HT60.out hk1 hA1 U (st,0) HSH.out.ok HA2.out).2.1;rw[hPU]at h1;exact h1.trans HMW.out)
        have HRFF:Hid (yI n k wr0 r st key=(PU.1,⟨tx1,b1,PU.2⟩,0)):=zH (by
         rw[HRF.out,HN.out,if_neg (by simp),<-hPU])
        have HBwq:Hid (Below w.heap.size w wq):=zH (HB4w.out.trans HKq.out.bel);have HZq:=zH ((HKq.out.blk (w.heap.size+2) ⟨by omega,by omega⟩).trans HZ4.out);have HTq:=zH ((HKq.out.blk (w.heap.size+3) ⟨by omega,by omega⟩).trans HT4.out);have HDq:=zH ((HKq.out.blk (w.heap.size+1) ⟨by omega,by omega⟩).trans HD4.out);have HHq:=zH ((HKq.out.blk gs ⟨by omega,by omega⟩).trans HH4.out);have HBK:Hid (al=ao\/∀a,al=some a->w.heap.size<=a.block/\a.block<wq.heap.size):=zH (by
         rcases HBl.out with h1|h1
         . exact .inl h1.1
         . exact .inr fun a ha=>by have h2:=h1 a ha;exact⟨by omega,h2.2⟩)
        have HNE:Hid ((al=ao/\FU=All)\/∀a,al=some a->a.block≠w.heap.size+2/\a.block≠w.heap.size+3):=zH (by
         rcases HBl.out with h1|h1
         . exact .inl h1
         . exact .inr fun a ha=>by have:=h1 a ha;omega)
        have hk:=HK.out;clear HK hFU hPU;obtain⟨x0,x1,x2,x3,x4,x5,x6⟩:=zc7 HX.out;have d0:=zd HDq.out 0;obtain⟨at0,at1⟩:=zc2 HHq.out;obtain⟨bz0,bz1,bz2,bz3,bz4,bz5,bz6⟩:=zc7 HZq.out;obtain⟨cz0,cz1,cz2,cz3⟩:=zc4 HTq.out;simp only[List.getElem?_toArray,List.getElem?_cons_zero,List.getElem?_cons_succ]at d0;obtain⟨fb0,fb1,fb2,fb3,fb4,fb5,fb6⟩:=zf7 HZq.out;obtain⟨fc0,fc1,fc2,fc3⟩:=zf4 HTq.out;rcases hk with rfl|rfl
        . have HGT:Hid (gtF n k wr0 r st 3 key=(PU.1,⟨tx1,b1,0⟩,0)):=zH (by
           unfold gtF;rw[if_neg (by decide),HRFF.out])
          have HN2:Hid (w.heap.size≠w.heap.size+1+1):=zH (by omega);have HM2:Hid (w.heap.size≠w.heap.size+1+1+1):=zH (by omega);have HN3:Hid (gs≠w.heap.size+1+1):=zH (by omega);have HM3:Hid (gs≠w.heap.size+1+1+1):=zH (by omega);go_wp2_with fail
          go_region_held (fun w'=>w'.cell? ⟨w.heap.size,0,none⟩=some (.int .i64 (n:Int))/\w'.cell? ⟨w.heap.size,1,none⟩=some (.int .i64 (k:Int))/\w'.cell? ⟨w.heap.size,2,none⟩=some (.int .i64 (wr0:Int))/\w'.cell? ⟨w.heap.size,3,none⟩=some (.int .i64 (r:Int))/\w'.cell? ⟨w.heap.size,4,none⟩=some (.int .u16 (D:Int))/\w'.cell? ⟨w.heap.size,5,none⟩=some (.int .i64 (mw:Int))/\w'.cell? ⟨w.heap.size,6,none⟩=some (.slice al ll cl)/\w'.cell? ⟨gs,0,none⟩=some (.int .i64 (b1:Int))/\w'.cell? ⟨gs,1,none⟩=some (.int .i64 0)) (first|(with_reducible exact⟨zh (x0),zh (x1),zh (x2),zh (x3),zh (x4),zh (x5),zh (x6),zh (at0),zh (at1)⟩)|(with_reducible exact⟨zh (zR HN2.out x0),zh (zR HN2.out x1),zh (zR HN2.out x2),zh (zR HN2.out x3),zh (zR HN2.out x4),zh (zR HN2.out x5),zh (zR HN2.out x6),zh (zR HN3.out at0),zh (zR HN3.out at1)⟩)|(with_reducible exact⟨zh (zV HM2.out x0),zh (zV HM2.out x1),zh (zV HM2.out x2),zh (zV HM2.out x3),zh (zV HM2.out x4),zh (zV HM2.out x5),zh (zV HM2.out x6),zh (zV HM3.out at0),zh (zV HM3.out at1)⟩)|(with_reducible exact⟨zh (zV HM2.out (zR HN2.out x0)),zh (zV HM2.out (zR HN2.out x1)),zh (zV HM2.out (zR HN2.out x2)),zh (zV HM2.out (zR HN2.out x3)),zh (zV HM2.out (zR HN2.out x4)),zh (zV HM2.out (zR HN2.out x5)),zh (zV HM2.out (zR HN2.out x6)),zh (zV HM3.out (zR HN3.out at0)),zh (zV HM3.out (zR HN3.out at1))⟩)|(with_reducible exact⟨zh (zR HN2.out (zV HM2.out x0)),zh (zR HN2.out (zV HM2.out x1)),zh (zR HN2.out (zV HM2.out x2)),zh (zR HN2.out (zV HM2.out x3)),zh (zR HN2.out (zV HM2.out x4)),zh (zR HN2.out (zV HM2.out x5)),zh (zR HN2.out (zV HM2.out x6)),zh (zR HN3.out (zV HM3.out at0)),zh (zR HN3.out (zV HM3.out at1))⟩)|fail) (fail)
          obtain⟨qq1,qq2⟩:=zD (A:=w.heap.size+2) (B:=w.heap.size+3) (by omega) HZq.out HTq.out (.int .i64 (n:Int)) (.int .i64 (k:Int)) (.int .i64 (wr0:Int)) (.int .i64 (r:Int)) (.int .u16 (D:Int)) (.int .i64 (mw:Int)) (.slice al ll cl) (.string tx1) (.int .i64 (b1:Int)) (.int .i64 0) (.int .i64 0);obtain⟨yy0,yy1,yy2,yy3,yy4,yy5,yy6⟩:=zc7 qq1;obtain⟨zy0,zy1,zy2,zy3⟩:=zc4 qq2;clear qq1 qq2;obtain⟨qq1,qq2⟩:=Qe (A:=w.heap.size+2) (B:=w.heap.size+3) (by omega) HZq.out HTq.out (.int .i64 (n:Int)) (.int .i64 (k:Int)) (.int .i64 (wr0:Int)) (.int .i64 (r:Int)) (.int .u16 (D:Int)) (.int .i64 (mw:Int)) (.slice al ll cl) (.string tx1) (.int .i64 (b1:Int)) (.int .i64 0) (.int .i64 0);obtain⟨vv0,vv1,vv2,vv3,vv4,vv5,vv6⟩:=zc7 qq1;obtain⟨uu0,uu1,uu2,uu3⟩:=zc4 qq2;clear qq1 qq2;have HFS1:=zH (zb (zn (zj (Below.refl 0 wq) (Nat.zero_le (w.heap.size+2)) (.int .i64 (n:Int)) (.int .i64 (k:Int)) (.int .i64 (wr0:Int)) (.int .i64 (r:Int)) (.int .u16 (D:Int)) (.int .i64 (mw:Int)) (.slice al ll cl)) (Nat.zero_le (w.heap.size+3)) (.string tx1) (.int .i64 (b1:Int)) (.int .i64 0) (.int .i64 0))).size;have HFS2:=zH (zb (zj (zn (Below.refl 0 wq) (Nat.zero_le (w.heap.size+3)) (.string tx1) (.int .i64 (b1:Int)) (.int .i64 0) (.int .i64 0)) (Nat.zero_le (w.heap.size+2)) (.int .i64 (n:Int)) (.int .i64 (k:Int)) (.int .i64 (wr0:Int)) (.int .i64 (r:Int)) (.int .u16 (D:Int)) (.int .i64 (mw:Int)) (.slice al ll cl))).size;have HF1:=zH (zb (zn (zj HBwq.out (show w.heap.size<=w.heap.size+2 by omega) (.int .i64 (n:Int)) (.int .i64 (k:Int)) (.int .i64 (wr0:Int)) (.int .i64 (r:Int)) (.int .u16 (D:Int)) (.int .i64 (mw:Int)) (.slice al ll cl)) (show w.heap.size<=w.heap.size+3 by omega) (.string tx1) (.int .i64 (b1:Int)) (.int .i64 0) (.int .i64 0)));have HF2:=zH (zb (zj (zn HBwq.out (show w.heap.size<=w.heap.size+3 by omega) (.string tx1) (.int .i64 (b1:Int)) (.int .i64 0) (.int .i64 0)) (show w.heap.size<=w.heap.size+2 by omega) (.int .i64 (n:Int)) (.int .i64 (k:Int)) (.int .i64 (wr0:Int)) (.int .i64 (r:Int)) (.int .u16 (D:Int)) (.int .i64 (mw:Int)) (.slice al ll cl)));have HG1:=zH (Q9 HNE.out HR.out HF1.out HRl.out (fun b o c h1 h2 hc=>zh (zV h2 (zR h1 hc))));have HG2:=zH (Q9 HNE.out HR.out HF2.out HRl.out (fun b o c h1 h2 hc=>zh (zR h1 (zV h2 hc))))
          all_goals
           go_wp2_with fail
           first
            |(refine bodyPost_ret (v:=.tuple #[.agg (shC n k wr0 r D mw (.slice al ll cl)),.agg #[.string tx1,.int .i64 (b1:Int),.int .i64 0,.int .i64 0],.int .i64 0]) (by simp[results,Tryz.results48,go_sem,yy0,yy1,yy2,yy3,yy4,yy5,yy6,zy0,zy1,zy2,zy3];done) rfl ?_;have HFF:=HF1;have HGG:=HG1;have HFF0:=HFS1)
            |(refine bodyPost_ret (v:=.tuple #[.agg (shC n k wr0 r D mw (.slice al ll cl)),.agg #[.string tx1,.int .i64 (b1:Int),.int .i64 0,.int .i64 0],.int .i64 0]) (by simp[results,Tryz.results48,go_sem,vv0,vv1,vv2,vv3,vv4,vv5,vv6,uu0,uu1,uu2,uu3];done) rfl ?_;have HFF:=HF2;have HGG:=HG2;have HFF0:=HFS2)
            |fail
           rw[HGT.out];refine⟨D,FU,al,cl,?_,HSJ.out,HGG.out,by rw[HLL.out];exact HNl.out,HBK.out.imp id (fun h a ha=>⟨(h a ha).1,Nat.lt_of_lt_of_le (h a ha).2 HFF0.out⟩),HFF.out⟩;show Ending.returned _=Ending.returned (.tuple #[.agg (shC n k wr0 r D PU.1.wr (.slice al FU.length cl)),_,_]);rw[HLL.out,HWR.out];rfl
        . have HGT:Hid (gtF n k wr0 r st 8 key=(PU.1,⟨ByteArray.empty,0,PU.2⟩,0)):=zH (by
           unfold gtF;rw[if_pos rfl,HRFF.out])
          obtain⟨qq1,qq2⟩:=zD (A:=w.heap.size+2) (B:=w.heap.size+3) (by omega) HZq.out HTq.out (.int .i64 (n:Int)) (.int .i64 (k:Int)) (.int .i64 (wr0:Int)) (.int .i64 (r:Int)) (.int .u16 (D:Int)) (.int .i64 (mw:Int)) (.slice al ll cl) (.string ⟨#[]⟩) (.int .i64 0) (.int .i64 0) (.int .i64 (mn:Int));obtain⟨y0,y1,y2,y3,y4,y5,y6⟩:=zc7 qq1;obtain⟨z0,z1,z2,z3⟩:=zc4 qq2;clear qq1 qq2;have HBZ:=zH (zn (zj HBwq.out (show w.heap.size<=w.heap.size+2 by omega) (.int .i64 (n:Int)) (.int .i64 (k:Int)) (.int .i64 (wr0:Int)) (.int .i64 (r:Int)) (.int .u16 (D:Int)) (.int .i64 (mw:Int)) (.slice al ll cl)) (show w.heap.size<=w.heap.size+3 by omega) (.string ⟨#[]⟩) (.int .i64 0) (.int .i64 0) (.int .i64 (mn:Int)));have HFS0:=zH (zn (zj (Below.refl 0 wq) (Nat.zero_le (w.heap.size+2)) (.int .i64 (n:Int)) (.int .i64 (k:Int)) (.int .i64 (wr0:Int)) (.int .i64 (r:Int)) (.int .u16 (D:Int)) (.int .i64 (mw:Int)) (.slice al ll cl)) (Nat.zero_le (w.heap.size+3)) (.string ⟨#[]⟩) (.int .i64 0) (.int .i64 0) (.int .i64 (mn:Int))).size;have HG1:=zH (Q9 HNE.out HR.out HBZ.out HRl.out (fun b o c h1 h2 hc=>zV h2 (zR h1 hc)));go_wp2_with fail
          refine bodyPost_ret (v:=.tuple #[.agg (shC n k wr0 r D mw (.slice al ll cl)),.agg #[.string ⟨#[]⟩,.int .i64 0,.int .i64 0,.int .i64 (mn:Int)],.int .i64 0]) (by simp[results,Tryz.results48,go_sem,y0,y1,y2,y3,y4,y5,y6,z0,z1,z2,z3];try rfl) rfl ?_;rw[HGT.out];refine⟨D,FU,al,cl,?_,HSJ.out,HG1.out,by rw[HLL.out];exact HNl.out,HBK.out.imp id (fun h a ha=>⟨(h a ha).1,Nat.lt_of_lt_of_le (h a ha).2 HFS0.out⟩),HBZ.out⟩;show Ending.returned _=Ending.returned (.tuple #[.agg (shC n k wr0 r D PU.1.wr (.slice al FU.length cl)),_,_]);rw[HLL.out,HWR.out,<-HPM.out];rfl
end Go.Proofs.YtmgfbmkfomebcaaGreatDoor
