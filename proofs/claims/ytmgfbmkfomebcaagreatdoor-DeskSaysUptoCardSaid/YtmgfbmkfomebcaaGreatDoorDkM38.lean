/- desk.do. -/
import Derived.Test.YtmgfbmkfomebcaaGreatDoorDkM35
import Derived.Test.YtmgfbmkfomebcaaGreatDoorDkM29
import Derived.Test.YtmgfbmkfomebcaaGreatDoorDkM22
import Derived.Test.YtmgfbmkfomebcaaGreatDoorDkM16
import Derived.Deep.RegionHeld3
set_option linter.unusedVariables false
set_option linter.unusedSimpArgs false
set_option maxRecDepth 100000
set_option maxHeartbeats 8000000
namespace Go.Proofs.YtmgfbmkfomebcaaGreatDoor
open Go.RowKit
def AvD(Av:Nat->Prop)(D:Nat)(x:Nat):Prop:=Av x\/x=D
structure Dsk (w:World) (base:Nat) (Av:Nat->Prop) (D:Nat) (s:DS) (b nb:Nat) (V:Nat->Nat->Value):Prop where
 ok:s.ok
 st:Shf w base (AvD Av D) s.n s.k s.wr s.r b nb V s.st
 cell:w.heap[D]?=some (.cells #[.pointer (some ⟨b,0,none⟩)] 36 (0,0))
 bD:base<=D
 nD:¬Av D
def HasDsk(w:World)(base:Nat)(Av:Nat->Prop)(D:Nat)(s:DS):Prop:=∃b nb V,Dsk w base Av D s b nb V
noncomputable abbrev doneF(s:DS)(kind:Int)(key m:Int)(text:ByteArray):St×Tl×Nat:=doF s.n s.k s.wr s.r s.st kind key m text
def zfU(base:Nat)(Av:Nat->Prop)(D:Nat)(s:DS)(R:St×Tl×Nat)(w:World)(e:Ending)(w':World):Prop:=
 e=(if R.2.2=0 then .returned (tellV R.2.1) else dkPanic R.2.2)/\HasDsk w' base Av D {s with st:=R.1}/\Kept Av base w w'
theorem JJ{w:World}{p:Addr}{v:Value}(o:Obj)(h:w.cell? p=some v):(w.alloc o).cell? p=some v:=
 ((zc w o).cell (p:=p) (World.block_lt_of_cell? _ _ h)).trans h
theorem QD{w:World}{A b o:Nat}{c a0 a1 a2 a3:Value}(h:b≠A)(hc:w.cell? ⟨b,o,none⟩=some c):
 ((((w.setCell ⟨A,0,none⟩ a0).setCell ⟨A,1,none⟩ a1).setCell ⟨A,2,none⟩ a2).setCell ⟨A,3,none⟩ a3).cell? ⟨b,o,none⟩=some c:=
 z7 h (z7 h (z7 h (z7 h hc)))
theorem zdG{w:World}{A:Nat}{t:TypeId}{x0 x1 x2 x3:Value}(hA:w.heap[A]?=some (.cells #[x0,x1,x2,x3] t (0,0)))(a0 a1 a2 a3:Value):
 ((((w.setCell ⟨A,0,none⟩ a0).setCell ⟨A,1,none⟩ a1).setCell ⟨A,2,none⟩ a2).setCell ⟨A,3,none⟩ a3).heap[A]?=some (.cells #[a0,a1,a2,a3] t (0,0)):=by
 rw[heap_set a3 (j:=3) (heap_set a2 (j:=2) (heap_set a1 (j:=1) (heap_set a0 (j:=0) hA)))];rfl
theorem KE{w:World}{A B:Nat}{o:Obj}(h:A≠B)(hB:w.heap[B]?=some o)(a0 a1 a2 a3:Value):
 ((((w.setCell ⟨A,0,none⟩ a0).setCell ⟨A,1,none⟩ a1).setCell ⟨A,2,none⟩ a2).setCell ⟨A,3,none⟩ a3).heap[B]?=some o:=by
 rw[zf _ h,zf _ h,zf _ h,zf _ h];exact hB
structure Done (w Y:World) (base:Nat) (Av Av':Nat->Prop) (D:Nat) (s:DS) (b nb:Nat) (st':St) (T5:Nat) (tx:ByteArray) (a' mn:Nat):Prop where
 t5:Y.heap[T5]?=some (.cells #[.string tx,.int .i64 (a':Int),.int .i64 0,.int .i64 (mn:Int)] 70 (0,0))
 t4:Y.heap[w.heap.size+1]?=some (.cells #[.string ⟨#[]⟩,.int .i64 0,.int .i64 0,.int .i64 0] 70 (0,0))
 ne:T5≠w.heap.size+1
 sf:∃V,Shf Y base Av' s.n s.k s.wr s.r b nb V st'
 kp:Kept (AvD Av D) base w Y
 sub:∀x,AvD Av D x->Av' x
 in4:Av' (w.heap.size+1)
theorem Done.fin{w Y:World}{base:Nat}{Av Av':Nat->Prop}{D:Nat}{s:DS}{b nb:Nat}{st':St}{T5:Nat}{tx:ByteArray}{a' mn:Nat}(h:Done w Y base Av Av' D s b nb st' T5 tx a' mn)(hok:s.ok)
 (hc:w.heap[D]?=some (.cells #[.pointer (some ⟨b,0,none⟩)] 36 (0,0)))(hbD:base<=D)(hnD:¬Av D):HasDsk Y base Av D {s with st:=st'}/\Kept Av base w Y:=by
 obtain⟨V,hS⟩:=h.sf;exact⟨⟨b,nb,V,hok,hS.narrow h.sub,(h.kp.blk D (.inr rfl)).trans hc,hbD,hnD⟩,h.kp.narrow fun x hx=>.inl hx⟩
theorem Done.store{w Y:World}{base:Nat}{Av Av':Nat->Prop}{D:Nat}{s:DS}{b nb:Nat}{st':St}{T5:Nat}{tx:ByteArray}{a' mn:Nat}(h:Done w Y base Av Av' D s b nb st' T5 tx a' mn)(hAv:∀g,AvD Av D g->g<w.heap.size)(hb:base<=w.heap.size)(a0 a1 a2 a3:Value):
 (∃V,Shf ((((Y.setCell ⟨w.heap.size+1,0,none⟩ a0).setCell ⟨w.heap.size+1,1,none⟩ a1).setCell ⟨w.heap.size+1,2,none⟩ a2).setCell ⟨w.heap.size+1,3,none⟩ a3) base (AvD Av D) s.n s.k s.wr s.r b nb V st')/\
 Kept (AvD Av D) base w ((((Y.setCell ⟨w.heap.size+1,0,none⟩ a0).setCell ⟨w.heap.size+1,1,none⟩ a1).setCell ⟨w.heap.size+1,2,none⟩ a2).setCell ⟨w.heap.size+1,3,none⟩ a3):=by
 obtain⟨V,hS⟩:=h.sf;exact Qm hS h.kp h.sub h.in4 (fun g hg=>by have:=hAv g hg;omega) (by omega) a0 a1 a2 a3
theorem Done.mk1{w W1 w5:World}{base:Nat}{Av:Nat->Prop}{D:Nat}{s:DS}{b nb:Nat}{V5:Nat->Nat->Value}{st':St}(tx:ByteArray)(a' mn:Nat)(hb1:Below w.heap.size w W1)(hs1:W1.heap.size=w.heap.size+2)
 (hh4:W1.heap[w.heap.size+1]?=some (.cells #[.string ⟨#[]⟩,.int .i64 0,.int .i64 0,.int .i64 0] 70 (0,0)))(hAV:∀g,AvD Av D g->g<w.heap.size)(hbase:base<=w.heap.size)
 (hS5:Shf w5 base (WideA (AvD Av D) w.heap.size W1.drew.heap.size) s.n s.k s.wr s.r b nb V5 st')(hK5:Kept (WideA (AvD Av D) w.heap.size W1.drew.heap.size) base W1.drew w5):
 Done w (w5.alloc (.cells #[.string tx,.int .i64 (a':Int),.int .i64 0,.int .i64 (mn:Int)] 70)) base Av
  (WideA (WideA (AvD Av D) w.heap.size W1.drew.heap.size) w5.heap.size (w5.alloc (.cells #[.string tx,.int .i64 (a':Int),.int .i64 0,.int .i64 (mn:Int)] 70)).heap.size) D s b nb st' w5.heap.size tx a' mn:=by
 have hsd:W1.drew.heap.size=w.heap.size+2:=hs1;have hs5:w.heap.size+2<=w5.heap.size:=by have:=hK5.bel.size;omega
 have k1:Kept (AvD Av D) base w W1.drew:=Kept.of_below (zb hb1) hbase hAV;have k2:Kept (AvD Av D) base w w5:=k1.trans (hK5.narrow fun x hx=>.inl hx);have h4:=(hK5.blk (w.heap.size+1) (.inr ⟨by omega,by omega⟩)).trans (show W1.drew.heap[w.heap.size+1]?=_ from hh4);exact⟨heap_alloc_new _ _,za _ _ h4,by omega,⟨V5,hS5.wide (zc _ _)⟩,k2.trans (Kept.of_below (zc _ _) (by omega) fun g hg=>by have:=hAV g hg;omega),fun x hx=>.inl (.inl hx),.inl (.inr ⟨by omega,by omega⟩)⟩
theorem Done.mk2{w W1 w5:World}{base:Nat}{Av:Nat->Prop}{D:Nat}{s:DS}{b nb:Nat}{V5:Nat->Nat->Value}{st':St}{z:Obj}(tx:ByteArray)(a' mn:Nat)(hb1:Below w.heap.size w W1)(hs1:W1.heap.size=w.heap.size+2)
 (hh4:W1.heap[w.heap.size+1]?=some (.cells #[.string ⟨#[]⟩,.int .i64 0,.int .i64 0,.int .i64 0] 70 (0,0)))(hAV:∀g,AvD Av D g->g<w.heap.size)(hbase:base<=w.heap.size)
 (hS5:Shf w5 base (WideA (AvD Av D) w.heap.size (W1.alloc z).drew.heap.size) s.n s.k s.wr s.r b nb V5 st')(hK5:Kept (WideA (AvD Av D) w.heap.size (W1.alloc z).drew.heap.size) base (W1.alloc z).drew w5)
 (hT5:w5.heap[W1.heap.size]?=some (.cells #[.string ⟨#[]⟩,.int .i64 0,.int .i64 0,.int .i64 0] 70 (0,0))):
 Done w ((((w5.setCell ⟨W1.heap.size,0,none⟩ (.string tx)).setCell ⟨W1.heap.size,1,none⟩ (.int .i64 (a':Int))).setCell ⟨W1.heap.size,2,none⟩ (.int .i64 0)).setCell ⟨W1.heap.size,3,none⟩ (.int .i64 (mn:Int))) base Av
  (WideA (AvD Av D) w.heap.size (W1.alloc z).drew.heap.size) D s b nb st' W1.heap.size tx a' mn:=by
 have hsd:(W1.alloc z).drew.heap.size=w.heap.size+3:=by show(W1.alloc z).heap.size=_;rw[World.size_alloc];omega
 have k1:Kept (AvD Av D) base w (W1.alloc z).drew:=Kept.of_below (zb (hb1.alloc (by omega) _)) hbase hAV;have k2:Kept (AvD Av D) base w w5:=k1.trans (hK5.narrow fun x hx=>.inl hx);have h4:=(hK5.blk (w.heap.size+1) (.inr ⟨by omega,by omega⟩)).trans (show(W1.alloc z).drew.heap[w.heap.size+1]?=_ from za _ _ hh4);have hin:WideA (AvD Av D) w.heap.size (W1.alloc z).drew.heap.size W1.heap.size:=.inr ⟨by omega,by omega⟩;have hne:∀g,AvD Av D g->g≠W1.heap.size:=fun g hg=>by have:=hAV g hg;omega
 exact⟨zdG hT5 _ _ _ _,KE (by omega) h4 _ _ _ _,by omega,⟨V5,(((hS5.aside hin 0 _).aside hin 1 _).aside hin 2 _).aside hin 3 _⟩,
  (((k2.aside hne (by omega) 0 _).aside hne (by omega) 1 _).aside hne (by omega) 2 _).aside hne (by omega) 3 _,fun x hx=>.inl hx,.inr ⟨by omega,by omega⟩⟩
theorem zeU{w:World}{base:Nat}{Av:Nat->Prop}{D:Nat}{s:DS}(h:HasDsk w base Av D s)(kind key m:Int)(text:ByteArray)(ht:text.size<=9223372036854775807):
 Calls Tryz.prog 33 #[.pointer (some ⟨D,0,none⟩),deedV kind key m text] w (zfU base Av D s (doneF s kind key m text) w):=by
 obtain⟨b,nb,V,hD⟩:=h;obtain⟨hok,hS,hc,hbD,hnD⟩:=hD;have hDlt:=(Array.getElem?_eq_some_iff.1 hc).1;obtain⟨R,hR⟩:∃R,doneF s kind key m text=R:=⟨_,rfl⟩
 rw[hR];obtain⟨st',⟨tx,at',mn⟩,E⟩:=R;obtain⟨W1,hW1⟩:∃W1,(w.alloc (.cells #[.int .i64 kind,.int .i64 key,.int .i64 m,.string text] 66)).alloc (.cells #[.string ⟨#[]⟩,.int .i64 0,.int .i64 0,.int .i64 0] 70)=W1:=⟨_,rfl⟩
 have hb1:Below w.heap.size w W1:=by rw[<-hW1];exact(zc _ _).alloc (by simp) _
 have hs1:W1.heap.size=w.heap.size+2:=by rw[<-hW1];simp
 have hh3:W1.heap[w.heap.size]?=some (.cells #[.int .i64 kind,.int .i64 key,.int .i64 m,.string text] 66 (0,0)):=by rw[<-hW1];exact za _ _ (heap_alloc_new _ _)
 have hh4:W1.heap[w.heap.size+1]?=some (.cells #[.string ⟨#[]⟩,.int .i64 0,.int .i64 0,.int .i64 0] 70 (0,0)):=by rw[<-hW1];exact zl _ _ _ (by simp)
 have hcD:W1.heap[D]?=some (.cells #[.pointer (some ⟨b,0,none⟩)] 36 (0,0)):=(hb1.block D hDlt).trans hc;have x0:=zd hcD 0;obtain⟨d0,d1,d2,d3⟩:=zc4 hh3;simp only[List.getElem?_toArray,List.getElem?_cons_zero,List.getElem?_cons_succ]at x0;have CC:Hid (∀W,Below W1.heap.size W1 W->Calls Tryz.prog 59 #[.pointer (some ⟨b,0,none⟩),deedV kind key m text] W fun e w'=>
  e=.returned (.tuple #[tellV ⟨tx,at',mn⟩,.int .i64 (E:Nat)])/\(∃V',Shf w' base (WideA (AvD Av D) w.heap.size W.heap.size) s.n s.k s.wr s.r b nb V' st')/\Kept (WideA (AvD Av D) w.heap.size W.heap.size) base W w'/\
  (w'.cell? ⟨D,0,none⟩=some (.pointer (some ⟨b,0,none⟩))/\w'.cell? ⟨w.heap.size,0,none⟩=some (.int .i64 kind)/\w'.cell? ⟨w.heap.size,1,none⟩=some (.int .i64 key)/\w'.cell? ⟨w.heap.size,2,none⟩=some (.int .i64 m)/\w'.cell? ⟨w.heap.size,3,none⟩=some (.string text))):=zH fun W hb=>by
  have hbw:Below w.heap.size w W:=hb1.trans (hb.mono hb1.size);have c:=zdV kind key m text ht hok.1 hok.2.1 hok.2.2 (hS.wide hbw);rw[show doF s.n s.k s.wr s.r s.st kind key m text=(st',⟨tx,at',mn⟩,E) from hR]at c;refine c.mono fun e w' ⟨h1,h2,h3⟩=>⟨h1,h2,h3,?_⟩
  have hsz:W1.heap.size<=W.heap.size:=hb.size;have e1:w'.heap[D]?=some (.cells #[.pointer (some ⟨b,0,none⟩)] 36 (0,0)):=((h3.blk D (.inl (.inr rfl))).trans (hb.block D (by omega))).trans hcD;have e2:w'.heap[w.heap.size]?=some (.cells #[.int .i64 kind,.int .i64 key,.int .i64 m,.string text] 66 (0,0)):=((h3.blk w.heap.size (.inr ⟨by omega,by omega⟩)).trans (hb.block w.heap.size (by omega))).trans hh3;exact⟨zd e1 0,zd e2 0,zd e2 1,zd e2 2,zd e2 3⟩
 have HB1:=zH hb1;have HH4:=zH hh4;have HHD:=zH hcD;have HX:Hid (D<W1.heap.size/\w.heap.size<W1.heap.size/\D≠W1.heap.size/\w.heap.size≠W1.heap.size):=zH ⟨by omega,by omega,by omega,by omega⟩;have HOK:=zH hok;have CK0:Hid (∀W,Calls Tryz.prog 34 #[.int .i64 0] W fun e w'=>e=.returned (.tuple #[])/\W=w'):=zH fun W=>by
  have:=yF 0 W;rw[if_pos rfl]at this;exact this
 have HS1:=zH hs1;have HBSE:Hid (base<=w.heap.size):=zH (Nat.le_trans hbD (Nat.le_of_lt hDlt));have HAV:Hid (∀g,AvD Av D g->g<w.heap.size):=zH hS.avlt;have HCD:=zH hc;clear hR hc hS hb1 hh3 hh4 hcD hok hs1 hDlt;go_enter Tryz.func33,Tryz.ntmps33
 go_wp2_with fail
 go_region_held3 (fun w'=>w'.cell? ⟨D,0,none⟩=some (.pointer (some ⟨b,0,none⟩))/\w'.cell? ⟨w.heap.size,0,none⟩=some (.int .i64 kind)/\w'.cell? ⟨w.heap.size,1,none⟩=some (.int .i64 key)/\w'.cell? ⟨w.heap.size,2,none⟩=some (.int .i64 m)/\w'.cell? ⟨w.heap.size,3,none⟩=some (.string text)) (first|(with_reducible exact HKK.out)|(with_reducible exact⟨JJ _ HKK.out.1,JJ _ HKK.out.2.1,JJ _ HKK.out.2.2.1,JJ _ HKK.out.2.2.2.1,JJ _ HKK.out.2.2.2.2⟩)|(with_reducible exact⟨QD HX.out.2.2.1 HKK.out.1,QD HX.out.2.2.2 HKK.out.2.1,QD HX.out.2.2.2 HKK.out.2.2.1,QD HX.out.2.2.2 HKK.out.2.2.2.1,QD HX.out.2.2.2 HKK.out.2.2.2.2⟩)|go_keep)
  (first|(go_at_call 59;(with_reducible refine(CC.out _ (by first|exact Below.refl _ _|exact zb (Below.refl _ _)|exact zb (zc _ _)|exact zc _ _)).mono ?_);rintro e w5 ⟨rfl,⟨V5,hS5⟩,hK5,hkk⟩;have HKK:=zH hkk;clear hkk;(first|(have hT5:w5.heap[W1.heap.size]?=some (.cells #[.string ⟨#[]⟩,.int .i64 0,.int .i64 0,.int .i64 0] 70 (0,0)):=(hK5.blk _ (.inr ⟨Nat.le_of_lt HX.out.2.1,by simp⟩)).trans (heap_alloc_new W1 (.cells #[.string ⟨#[]⟩,.int .i64 0,.int .i64 0,.int .i64 0] 70));have q0:=zd hT5 0;have q1:=zd hT5 1;have q2:=zd hT5 2;have q3:=zd hT5 3;simp only[List.getElem?_toArray,List.getElem?_cons_zero,List.getElem?_cons_succ]at q0 q1 q2 q3;have f0:=zm hT5 0;have f1:=zm hT5 1;have f2:=zm hT5 2;have f3:=zm hT5 3)|skip)))
 . obtain⟨Y,hY⟩:∃Y,w5.alloc (.cells #[.string tx,.int .i64 (at':Int),.int .i64 0,.int .i64 (mn:Int)] 70)=Y:=⟨_,rfl⟩
   have hdn:=Done.mk1 tx at' mn HB1.out HS1.out HH4.out HAV.out HBSE.out hS5 hK5;rw[hY]at hdn;rw[hY];obtain⟨Av',hAv'⟩:∃A,WideA (WideA (AvD Av D) w.heap.size W1.drew.heap.size) w5.heap.size Y.heap.size=A:=⟨_,rfl⟩
   rw[hAv']at hdn;obtain⟨T5,hT⟩:∃T,w5.heap.size=T:=⟨_,rfl⟩
   rw[hT]at hdn ⊢;obtain⟨y0,y1,y2,y3⟩:=zc4 hdn.t5;obtain⟨z0,z1,z2,z3⟩:=zc4 hdn.t4;obtain⟨g0,g1,g2,g3⟩:=zf4 hdn.t4;have tc:=yg hdn.t4 (.string tx) (.int .i64 (at':Int)) (.int .i64 0) (.int .i64 (mn:Int));obtain⟨tc0,tc1,tc2,tc3⟩:=tc;have HDN:=zH hdn;clear hdn hY hAv' hT hS5 hK5 hW1 HKK HH4 HHD HX HB1 CC x0 d0 d1 d2 d3;by_cases hE:E=0
   . subst hE;go_wp2_with (go_at_call 34;(with_reducible refine(CK0.out _).mono ?_);rintro e w9 ⟨rfl,rfl⟩)
     refine bodyPost_ret (v:=tellV ⟨tx,at',mn⟩) (by simp[results,Tryz.results33,go_sem,tc0,tc1,tc2,tc3];try rfl) rfl ?_;have hs:=HDN.out.store HAV.out HBSE.out (.string tx) (.int .i64 (at':Int)) (.int .i64 0) (.int .i64 (mn:Int));obtain⟨⟨V9,hS9⟩,hK9⟩:=hs;exact⟨rfl,⟨b,nb,V9,HOK.out,hS9,(hK9.blk D (.inr rfl)).trans HCD.out,hbD,hnD⟩,hK9.narrow fun x hx=>.inl hx⟩
   . have CK:Hid (∀W,Calls Tryz.prog 34 #[.int .i64 (E:Int)] W fun e w'=>e=.panicked [{v:=vD (E:Int),recovered:=false}]/\W=w'):=zH fun W=>by
      have:=yF (E:Int) W;rw[if_neg (by omega)]at this;exact this
     go_wp2_with (go_at_call 34;(with_reducible refine(CK.out _).mono ?_);rintro e w9 ⟨rfl,rfl⟩)
     have hs:=HDN.out.fin HOK.out HCD.out hbD hnD;exact⟨rfl,by rw[if_neg hE],hs.1,hs.2⟩
 . obtain⟨Y,hY⟩:∃Y,(((w5.setCell ⟨W1.heap.size,0,none⟩ (.string tx)).setCell ⟨W1.heap.size,1,none⟩ (.int .i64 (at':Int))).setCell ⟨W1.heap.size,2,none⟩ (.int .i64 0)).setCell ⟨W1.heap.size,3,none⟩ (.int .i64 (mn:Int))=Y:=⟨_,rfl⟩
   have hdn:=Done.mk2 tx at' mn HB1.out HS1.out HH4.out HAV.out HBSE.out hS5 hK5 hT5;rw[hY]at hdn;rw[hY];obtain⟨Av',hAv'⟩:∃A,WideA (AvD Av D) w.heap.size (W1.alloc (.cells #[.string ⟨#[]⟩,.int .i64 0,.int .i64 0,.int .i64 0] 70)).drew.heap.size=A:=⟨_,rfl⟩
   rw[hAv']at hdn;obtain⟨T5,hT⟩:∃T,W1.heap.size=T:=⟨_,rfl⟩
   rw[hT]at hdn ⊢;obtain⟨y0,y1,y2,y3⟩:=zc4 hdn.t5;obtain⟨z0,z1,z2,z3⟩:=zc4 hdn.t4;obtain⟨g0,g1,g2,g3⟩:=zf4 hdn.t4;have tc:=yg hdn.t4 (.string tx) (.int .i64 (at':Int)) (.int .i64 0) (.int .i64 (mn:Int));obtain⟨tc0,tc1,tc2,tc3⟩:=tc;have HDN:=zH hdn;clear hdn hY hAv' hT hS5 hK5 hW1 HKK HH4 HHD HX HB1 CC x0 d0 d1 d2 d3 hT5 q0 q1 q2 q3 f0 f1 f2 f3;by_cases hE:E=0
   . subst hE;go_wp2_with (go_at_call 34;(with_reducible refine(CK0.out _).mono ?_);rintro e w9 ⟨rfl,rfl⟩)
     refine bodyPost_ret (v:=tellV ⟨tx,at',mn⟩) (by simp[results,Tryz.results33,go_sem,tc0,tc1,tc2,tc3];try rfl) rfl ?_;have hs:=HDN.out.store HAV.out HBSE.out (.string tx) (.int .i64 (at':Int)) (.int .i64 0) (.int .i64 (mn:Int));obtain⟨⟨V9,hS9⟩,hK9⟩:=hs;exact⟨rfl,⟨b,nb,V9,HOK.out,hS9,(hK9.blk D (.inr rfl)).trans HCD.out,hbD,hnD⟩,hK9.narrow fun x hx=>.inl hx⟩
   . have CK:Hid (∀W,Calls Tryz.prog 34 #[.int .i64 (E:Int)] W fun e w'=>e=.panicked [{v:=vD (E:Int),recovered:=false}]/\W=w'):=zH fun W=>by
      have:=yF (E:Int) W;rw[if_neg (by omega)]at this;exact this
     go_wp2_with (go_at_call 34;(with_reducible refine(CK.out _).mono ?_);rintro e w9 ⟨rfl,rfl⟩)
     have hs:=HDN.out.fin HOK.out HCD.out hbD hnD;exact⟨rfl,by rw[if_neg hE],hs.1,hs.2⟩
theorem Dsk.below{w w':World}{base:Nat}{Av:Nat->Prop}{D:Nat}{s:DS}{b nb:Nat}{V:Nat->Nat->Value}(h:Dsk w base Av D s b nb V)(hb:Below w.heap.size w w'):Dsk w' base Av D s b nb V:=
 ⟨h.ok,h.st.below hb,(hb.block D (Array.getElem?_eq_some_iff.1 h.cell).1).trans h.cell,h.bD,h.nD⟩
theorem HasDsk.below{w w':World}{base:Nat}{Av:Nat->Prop}{D:Nat}{s:DS}(h:HasDsk w base Av D s)(hb:Below w.heap.size w w'):HasDsk w' base Av D s:=by
 obtain⟨b,nb,V,h⟩:=h;exact⟨b,nb,V,h.below hb⟩
theorem HasDsk.kept{w w':World}{base:Nat}{Av:Nat->Prop}{D:Nat}{s:DS}(h:HasDsk w base Av D s)(hb:Below w.heap.size w w'):Kept Av base w w':=by
 obtain⟨b,nb,V,h⟩:=h;exact(h.st.kept hb).narrow fun x hx=>.inl hx
theorem HasDsk.ok{w:World}{base:Nat}{Av:Nat->Prop}{D:Nat}{s:DS}(h:HasDsk w base Av D s):s.ok/\Okst s.st/\base<=w.heap.size/\D<w.heap.size:=by
 obtain⟨b,nb,V,h⟩:=h;have:=h.bD;have hD:=(Array.getElem?_eq_some_iff.1 h.cell).1;exact⟨h.ok,h.st.ok,by omega,hD⟩
theorem HasDsk.wide{w w':World}{base:Nat}{Av:Nat->Prop}{D:Nat}{s:DS}(h:HasDsk w base Av D s)(hb:Below w.heap.size w w'):HasDsk w' base (WideA Av w.heap.size w'.heap.size) D s:=by
 obtain⟨b,nb,V,h⟩:=h;have hD:=(Array.getElem?_eq_some_iff.1 h.cell).1;refine⟨b,nb,V,h.ok,(h.st.wide hb).narrow ?_,(hb.block D hD).trans h.cell,h.bD,?_⟩
 . intro x hx;rcases hx with(hx|hx)|hx
   . exact .inl (.inl hx)
   . exact .inr hx
   . exact .inl (.inr hx)
 . intro hx;rcases hx with hx|hx
   . exact h.nD hx
   . omega
theorem HasDsk.narrow{w:World}{base:Nat}{Av Av':Nat->Prop}{D:Nat}{s:DS}(h:HasDsk w base Av' D s)(hs:∀x,Av x->Av' x):HasDsk w base Av D s:=by
 obtain⟨b,nb,V,h⟩:=h;exact⟨b,nb,V,h.ok,h.st.narrow fun x hx=>hx.elim (fun hx=>.inl (hs x hx)) .inr,h.cell,h.bD,fun hx=>h.nD (hs _ hx)⟩
theorem zbj{w w1:World}{base:Nat}{Av:Nat->Prop}{D:Nat}{s:DS}(h:HasDsk w base Av D s)(hb:Below w.heap.size w w1)(kind key m:Int)(text:ByteArray)(ht:text.size<=9223372036854775807)(W:World)(hW:Below w1.heap.size w1 W):
 Calls Tryz.prog 33 #[.pointer (some ⟨D,0,none⟩),deedV kind key m text] W fun e w'=>
  e=(if(doneF s kind key m text).2.2=0 then .returned (tellV (doneF s kind key m text).2.1) else dkPanic (doneF s kind key m text).2.2)/\HasDsk w' base Av D {s with st:=(doneF s kind key m text).1}/\Kept Av base w w'/\
  (∀g,w.heap.size<=g->g<w1.heap.size->w'.heap[g]?=w1.heap[g]?):=by
 have hbW:Below w.heap.size w W:=hb.trans (hW.mono hb.size);have hs:=hW.size;refine(zeU (h.wide hbW) kind key m text ht).mono fun e w' ⟨h1,h2,h3⟩=>⟨h1,h2.narrow fun x hx=>.inl hx,(h.kept hbW).trans (h3.narrow fun x hx=>.inl hx),fun g hg1 hg2=>?_⟩
 exact(h3.blk g (.inr ⟨hg1,by omega⟩)).trans (hW.block g hg2)
theorem kW{w w1:World}{base:Nat}{Av:Nat->Prop}{D:Nat}{s:DS}(h:HasDsk w base Av D s)(hb:Below w.heap.size w w1)(kind key m:Int)(text:ByteArray)(ht:text.size<=9223372036854775807){st':St}{tl:Tl}(hR:doneF s kind key m text=(st',tl,0))(W:World)(hW:Below w1.heap.size w1 W):
 Calls Tryz.prog 33 #[.pointer (some ⟨D,0,none⟩),deedV kind key m text] W fun e w'=>
  e=.returned (tellV tl)/\HasDsk w' base Av D {s with st:=st'}/\Kept Av base w w'/\(∀g,w.heap.size<=g->g<w1.heap.size->w'.heap[g]?=w1.heap[g]?):=by
 have c:=zbj h hb kind key m text ht W hW;rw[hR]at c;exact c
theorem vQ{w w1:World}{base:Nat}{Av:Nat->Prop}{D:Nat}{s:DS}(h:HasDsk w base Av D s)(hb:Below w.heap.size w w1)(kind key m:Int)(text:ByteArray)(ht:text.size<=9223372036854775807){st':St}{tl:Tl}{E:Nat}(hR:doneF s kind key m text=(st',tl,E))(hE:E≠0)(W:World)(hW:Below w1.heap.size w1 W):
 Calls Tryz.prog 33 #[.pointer (some ⟨D,0,none⟩),deedV kind key m text] W fun e w'=>
  e=.panicked [{v:=vD (E:Int),recovered:=false}]/\HasDsk w' base Av D {s with st:=st'}/\Kept Av base w w':=by
 have c:=zbj h hb kind key m text ht W hW;rw[hR]at c;refine c.mono fun e w' ⟨h1,h2,h3,_⟩=>⟨?_,h2,h3⟩
 rw[h1];exact if_neg hE
theorem qY{w:World}{base:Nat}{Av:Nat->Prop}{D:Nat}{s:DS}(h:HasDsk w base Av D s)(kind key m:Int)(text:ByteArray):TlOk s.n (doneF s kind key m text):=yJ h.ok.2.1 h.ok.1.1 kind key m text
def yy(base:Nat)(Av:Nat->Prop)(D:Nat)(R:DS×ByteArray)(w:World)(e:Ending)(w':World):Prop:=
 e=.returned (.tuple #[.string R.2,.bool true])/\HasDsk w' base Av D R.1/\Kept Av base w w'
def zA(base:Nat)(Av:Nat->Prop)(D:Nat)(s':DS)(n:Int)(w:World)(e:Ending)(w':World):Prop:=
 e=.panicked [{v:=vD n,recovered:=false}]/\HasDsk w' base Av D s'/\Kept Av base w w'
theorem yt{w:World}{ao:Option Addr}{len:Nat}{ws:List ByteArray}(h:StrsIn w ao len ws){u:ByteArray}(hu:u=ByteArray.empty\/u∈ws):u.size<=9223372036854775807:=by
 rcases hu with rfl|hu
 . exact Nat.zero_le _
 . exact h.2.2.1 u hu
end Go.Proofs.YtmgfbmkfomebcaaGreatDoor
