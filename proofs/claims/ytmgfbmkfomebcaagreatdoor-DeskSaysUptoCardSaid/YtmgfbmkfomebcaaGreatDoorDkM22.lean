/- package store: Do at get and at scrub. (Printed by a small program.) -/
import Derived.Test.YtmgfbmkfomebcaaGreatDoorDkM18
import Derived.Test.YtmgfbmkfomebcaaGreatDoorDkM21
import Derived.Test.YtmgfbmkfomebcaaGreatDoorDkM17
import Derived.Test.YtmgfbmkfomebcaaGreatDoorDkM19xStore9
import Derived.Test.YtmgfbmkfomebcaaGreatDoorDkM15
import Derived.Test.YtmgfbmkfomebcaaGreatDoorDkM16
import Derived.Deep.RegionHeld
import Derived.Deep.RegionHeld3
import Derived.Test.YtmgfbmkfomebcaaGreatDoorDkM13
set_option linter.unusedVariables false
set_option linter.unusedSimpArgs false
set_option maxRecDepth 100000
set_option maxHeartbeats 4000000
namespace Go.Proofs.YtmgfbmkfomebcaaGreatDoor
open Go.RowKit
theorem Shf.under{w:World}{base:Nat}{Av:Nat->Prop}{n k wr r b nb:Nat}{st:St}(h:∃V',Shf w base Av n k wr r b nb V' st)(o:Obj):∃V',Shf (w.alloc o) base Av n k wr r b nb V' st:=by
 obtain⟨V',h⟩:=h;exact⟨V',h.below (zc _ _)⟩
theorem Kept.under{w0 w:World}{base:Nat}{Av:Nat->Prop}(h:Kept Av base w0 w)(hb:base<=w.heap.size)(hA:∀g,Av g->g<w.heap.size)(o:Obj):Kept Av base w0 (w.alloc o):=
 h.trans (Kept.of_below (zc _ _) hb hA)
theorem Kl{w:World}{base:Nat}{Av:Nat->Prop}{n k wr0 r b nb:Nat}{V:Nat->Nat->Value}{st:St}(key:Nat)(m:Int)(text:ByteArray)(hkey:key<3)(hk1:1<=k)(hkn:k<=n)(hn:n<=10)(h:Shf w base Av n k wr0 r b nb V st):
 Calls Tryz.prog 59 #[.pointer (some ⟨b,0,none⟩),deedV 3 (key:Int) m text] w (kJ base Av n k wr0 r b nb ((yI n k wr0 r st key).1,⟨(yI n k wr0 r st key).2.1.tx,(yI n k wr0 r st key).2.1.at',0⟩,(yI n k wr0 r st key).2.2) w):=by
 obtain⟨W1,hd⟩:=VX h 3 (key:Int) m text;have HD:=zH hd;have hW1:=hd.eqn;obtain⟨d0,d1,d2,d3⟩:=zc4 hd.d;have CK:=zH (fun W=>vp (key:Int) W);unfold jv at CK;rw[show(decide (0<=(key:Int))&&decide ((key:Int)<3))=true by simp;omega]at CK;have CP:=zH (Yy key hkey hk1 hkn hn hd.s);unfold Yx at CP;obtain⟨R,hR⟩:∃R,yI n k wr0 r st key=R:=⟨_,rfl⟩
 rw[hR]at CP ⊢;obtain⟨st2,⟨tx,ta,tm⟩,E⟩:=R;dsimp only at CP ⊢;clear hR hd h;go_enter Tryz.func59,Tryz.ntmps59
 go_wp2_with (go_at_call 92;(with_reducible refine(CK.out _).mono ?_);rintro e w2 ⟨rfl,rfl⟩)
 (with_reducible refine CP.out.mono ?_)
 clear hW1;rintro e w2 ⟨rfl,⟨V2,hS2⟩,hK2⟩;have hdn:=HD.out.done hS2 hK2 (.string tx) (.int .i64 (ta:Int)) (.int .i64 0) (.int .i64 0);have hR2:=(Array.getElem?_eq_some_iff.1 hdn.2).1;obtain⟨r0,r1,r2',r3⟩:=zc4 hdn.2;obtain⟨f0,f1,f2,f3⟩:=zf4 hdn.2;obtain⟨tc0,tc1,tc2,tc3⟩:=yg hdn.2 (.string tx) (.int .i64 (ta:Int)) (.int .i64 0) (.int .i64 0);obtain⟨WR,hWR⟩:∃WR,(((w2.setCell ⟨w.heap.size+1,0,none⟩ (.string tx)).setCell ⟨w.heap.size+1,1,none⟩ (.int .i64 (ta:Int))).setCell ⟨w.heap.size+1,2,none⟩ (.int .i64 0)).setCell ⟨w.heap.size+1,3,none⟩ (.int .i64 0)=WR:=⟨_,rfl⟩
 rw[hWR]at tc0 tc1 tc2 tc3 hdn;have hb:=zc WR (.cells #[.string tx,.int .i64 (ta:Int),.int .i64 0,.int .i64 0] 70);have e0:=(hb.cell (p:=⟨w.heap.size+1,0,none⟩) (World.block_lt_of_cell? _ _ tc0)).trans tc0;have e1:=(hb.cell (p:=⟨w.heap.size+1,1,none⟩) (World.block_lt_of_cell? _ _ tc1)).trans tc1;have e2:=(hb.cell (p:=⟨w.heap.size+1,2,none⟩) (World.block_lt_of_cell? _ _ tc2)).trans tc2;have e3:=(hb.cell (p:=⟨w.heap.size+1,3,none⟩) (World.block_lt_of_cell? _ _ tc3)).trans tc3;have HN:Hid ((∃V',Shf (WR.alloc (.cells #[.string tx,.int .i64 (ta:Int),.int .i64 0,.int .i64 0] 70)) base Av n k wr0 r b nb V' st2)/\Kept Av base w (WR.alloc (.cells #[.string tx,.int .i64 (ta:Int),.int .i64 0,.int .i64 0] 70))):=zH (by
  obtain⟨⟨V',h1⟩,h2⟩:=hdn.1;exact⟨Shf.under ⟨V',h1⟩ _,h2.under (Nat.le_trans h1.hb (Nat.le_of_lt h1.blt)) h1.avlt _⟩)
 rw[<-hWR]at e0 e1 e2 e3 HN;clear hS2 hK2 hdn hb tc0 tc1 tc2 tc3 hWR;go_wp2_with fail
 refine bodyPost_ret (v:=.tuple #[.agg #[(.string tx),(.int .i64 (ta:Int)),.int .i64 0,(.int .i64 0)],.int .i64 (E:Nat)]) (by simp[results,Tryz.results59,go_sem,e0,e1,e2,e3];try rfl) rfl ?_;exact⟨rfl,HN.out⟩
theorem YB{w:World}{base:Nat}{Av:Nat->Prop}{n k wr0 r b nb:Nat}{V:Nat->Nat->Value}{st:St}(key:Nat)(m:Int)(text:ByteArray)(hkey:key<3)(hk1:1<=k)(hkn:k<=n)(hn:n<=10)(h:Shf w base Av n k wr0 r b nb V st):
 Calls Tryz.prog 59 #[.pointer (some ⟨b,0,none⟩),deedV 8 (key:Int) m text] w (kJ base Av n k wr0 r b nb ((yI n k wr0 r st key).1,⟨ByteArray.empty,0,(yI n k wr0 r st key).2.1.mn⟩,(yI n k wr0 r st key).2.2) w):=by
 obtain⟨W1,hd⟩:=VX h 8 (key:Int) m text;have HD:=zH hd;have hW1:=hd.eqn;obtain⟨d0,d1,d2,d3⟩:=zc4 hd.d;have CK:=zH (fun W=>vp (key:Int) W);unfold jv at CK;rw[show(decide (0<=(key:Int))&&decide ((key:Int)<3))=true by simp;omega]at CK;have CP:=zH (Yy key hkey hk1 hkn hn hd.s);unfold Yx at CP;obtain⟨R,hR⟩:∃R,yI n k wr0 r st key=R:=⟨_,rfl⟩
 rw[hR]at CP ⊢;obtain⟨st2,⟨tx,ta,tm⟩,E⟩:=R;dsimp only at CP ⊢;clear hR hd h;go_enter Tryz.func59,Tryz.ntmps59
 go_wp2_with (go_at_call 92;(with_reducible refine(CK.out _).mono ?_);rintro e w2 ⟨rfl,rfl⟩)
 (with_reducible refine CP.out.mono ?_)
 clear hW1;rintro e w2 ⟨rfl,⟨V2,hS2⟩,hK2⟩;have hdn:=HD.out.done hS2 hK2 (.string ⟨#[]⟩) (.int .i64 0) (.int .i64 0) (.int .i64 (tm:Int));have hR2:=(Array.getElem?_eq_some_iff.1 hdn.2).1;obtain⟨r0,r1,r2',r3⟩:=zc4 hdn.2;obtain⟨f0,f1,f2,f3⟩:=zf4 hdn.2;obtain⟨tc0,tc1,tc2,tc3⟩:=yg hdn.2 (.string ⟨#[]⟩) (.int .i64 0) (.int .i64 0) (.int .i64 (tm:Int));obtain⟨WR,hWR⟩:∃WR,(((w2.setCell ⟨w.heap.size+1,0,none⟩ (.string ⟨#[]⟩)).setCell ⟨w.heap.size+1,1,none⟩ (.int .i64 0)).setCell ⟨w.heap.size+1,2,none⟩ (.int .i64 0)).setCell ⟨w.heap.size+1,3,none⟩ (.int .i64 (tm:Int))=WR:=⟨_,rfl⟩
 rw[hWR]at tc0 tc1 tc2 tc3 hdn;have hb:=zc WR (.cells #[.string tx,.int .i64 (ta:Int),.int .i64 0,.int .i64 0] 70);have e0:=(hb.cell (p:=⟨w.heap.size+1,0,none⟩) (World.block_lt_of_cell? _ _ tc0)).trans tc0;have e1:=(hb.cell (p:=⟨w.heap.size+1,1,none⟩) (World.block_lt_of_cell? _ _ tc1)).trans tc1;have e2:=(hb.cell (p:=⟨w.heap.size+1,2,none⟩) (World.block_lt_of_cell? _ _ tc2)).trans tc2;have e3:=(hb.cell (p:=⟨w.heap.size+1,3,none⟩) (World.block_lt_of_cell? _ _ tc3)).trans tc3;have HN:Hid ((∃V',Shf (WR.alloc (.cells #[.string tx,.int .i64 (ta:Int),.int .i64 0,.int .i64 0] 70)) base Av n k wr0 r b nb V' st2)/\Kept Av base w (WR.alloc (.cells #[.string tx,.int .i64 (ta:Int),.int .i64 0,.int .i64 0] 70))):=zH (by
  obtain⟨⟨V',h1⟩,h2⟩:=hdn.1;exact⟨Shf.under ⟨V',h1⟩ _,h2.under (Nat.le_trans h1.hb (Nat.le_of_lt h1.blt)) h1.avlt _⟩)
 rw[<-hWR]at e0 e1 e2 e3 HN;clear hS2 hK2 hdn hb tc0 tc1 tc2 tc3 hWR;go_wp2_with fail
 refine bodyPost_ret (v:=.tuple #[.agg #[(.string ⟨#[]⟩),(.int .i64 0),.int .i64 0,(.int .i64 (tm:Int))],.int .i64 (E:Nat)]) (by simp[results,Tryz.results59,go_sem,e0,e1,e2,e3];try rfl) rfl ?_;exact⟨rfl,HN.out⟩
theorem X9{w:World}{base:Nat}{Av:Nat->Prop}{n k wr0 r b nb:Nat}{V:Nat->Nat->Value}{st:St}(key:Nat)(m:Int)(text:ByteArray)(hkey:key<3)(ht:text.size<=9223372036854775807)(hk1:1<=k)(hkn:k<=n)(hn:n<=10)(h:Shf w base Av n k wr0 r b nb V st):
 Calls Tryz.prog 59 #[.pointer (some ⟨b,0,none⟩),deedV 2 (key:Int) m text] w (kJ base Av n k wr0 r b nb (vT n k wr0 st key m text) w):=by
 obtain⟨W1,hd⟩:=VX h 2 (key:Int) m text;have HD:=zH hd;have hW1:=hd.eqn;obtain⟨d0,d1,d2,d3⟩:=zc4 hd.d;have CK:=zH (fun W=>vp (key:Int) W);unfold jv at CK;rw[show(decide (0<=(key:Int))&&decide ((key:Int)<3))=true by simp;omega]at CK;have CP:=zH (zaH 2 key m text hkey ht hk1 hkn hn hd.s);unfold kJ at CP;obtain⟨R,hR⟩:∃R,vT n k wr0 st key m text=R:=⟨_,rfl⟩
 rw[hR]at CP ⊢;obtain⟨st2,⟨tx,ta,tm⟩,E⟩:=R;dsimp only at CP;clear hR hd h;go_enter Tryz.func59,Tryz.ntmps59
 go_wp2_with (go_at_call 92;(with_reducible refine(CK.out _).mono ?_);rintro e w2 ⟨rfl,rfl⟩)
 (with_reducible refine CP.out.mono ?_)
 clear hW1;rintro e w2 ⟨rfl,⟨V2,hS2⟩,hK2⟩;have hdn:=HD.out.done hS2 hK2 (.string tx) (.int .i64 (ta:Int)) (.int .i64 0) (.int .i64 (tm:Int));obtain⟨r0,r1,r2',r3⟩:=zc4 hdn.2;obtain⟨f0,f1,f2,f3⟩:=zf4 hdn.2;obtain⟨tc0,tc1,tc2,tc3⟩:=yg hdn.2 (.string tx) (.int .i64 (ta:Int)) (.int .i64 0) (.int .i64 (tm:Int));have HN:=zH hdn.1;clear hS2 hK2 hdn;go_wp2_with fail
 refine bodyPost_ret (v:=.tuple #[.agg #[.string tx,.int .i64 (ta:Int),.int .i64 0,.int .i64 (tm:Int)],.int .i64 (E:Nat)]) (by simp[results,Tryz.results59,go_sem,tc0,tc1,tc2,tc3];try rfl) rfl ?_;exact⟨rfl,HN.out⟩
theorem KJ{w:World}{base:Nat}{Av:Nat->Prop}{n k wr0 r b nb:Nat}{V:Nat->Nat->Value}{st:St}(kind key m:Int)(text:ByteArray)(hbad:kind<1\/8<kind\/(jl kind=true/\(key<0\/2<key)))(h:Shf w base Av n k wr0 r b nb V st):
 Calls Tryz.prog 59 #[.pointer (some ⟨b,0,none⟩),deedV kind key m text] w (kJ base Av n k wr0 r b nb (st,Tl.no,1) w):=by
 obtain⟨W1,hd⟩:=VX h kind key m text;have HD:=zH hd;have hW1:=hd.eqn;obtain⟨d0,d1,d2,d3⟩:=zc4 hd.d;have hdn:=HD.out.done hd.s (Kept.refl _ _ _) (.string ⟨#[]⟩) (.int .i64 0) (.int .i64 0) (.int .i64 0);obtain⟨r0,r1,r2',r3⟩:=zc4 hdn.2;obtain⟨f0,f1,f2,f3⟩:=zf4 hdn.2;obtain⟨tc0,tc1,tc2,tc3⟩:=yg hdn.2 (.string ⟨#[]⟩) (.int .i64 0) (.int .i64 0) (.int .i64 0);have HN:=zH hdn.1;have CK:Hid (key<0\/2<key->∀W,Calls Tryz.prog 92 #[.int .i64 key] W (jv false W)):=zH (fun hk W=>by
  have h2:=vp key W;rw[show(decide (0<=key)&&decide (key<3))=false by simp;omega]at h2;exact h2)
 unfold jv at CK;clear hd h hdn;by_cases g1:kind<1
 . have t1:decide (kind<1)=true:=decide_eq_true g1;have t2:decide (kind<=3)=true:=decide_eq_true (by omega);clear g1 hbad;go_enter Tryz.func59,Tryz.ntmps59
   go_wp2_with fail
   refine bodyPost_ret (v:=.tuple #[.agg #[.string ⟨#[]⟩,.int .i64 0,.int .i64 0,.int .i64 0],.int .i64 1]) (by simp[results,Tryz.results59,go_sem,tc0,tc1,tc2,tc3];try rfl) rfl ?_;exact⟨rfl,HN.out⟩
 by_cases g2:8<kind
 . have t1:decide (kind<1)=false:=decide_eq_false g1;have t2:decide (kind<=3)=false:=decide_eq_false (by omega);have t3:(kind==8)=false:=by simp;omega
   have t4:(kind==7)=false:=by simp;omega
   have t5:decide (8<kind)=true:=decide_eq_true g2;clear g1 g2 hbad;go_enter Tryz.func59,Tryz.ntmps59
   go_wp2_with fail
   refine bodyPost_ret (v:=.tuple #[.agg #[.string ⟨#[]⟩,.int .i64 0,.int .i64 0,.int .i64 0],.int .i64 1]) (by simp[results,Tryz.results59,go_sem,tc0,tc1,tc2,tc3];try rfl) rfl ?_;exact⟨rfl,HN.out⟩
 have hkk:kind=1\/kind=2\/kind=3\/kind=7\/kind=8:=by
  rcases hbad with h|h|⟨h,_⟩
  . omega
  . omega
  . unfold jl at h;simp at h;omega
 have hkey:key<0\/2<key:=by
  rcases hbad with h|h|⟨_,h⟩
  . omega
  . omega
  . exact h
 have CKK:=zH (CK.out hkey);clear g1 g2 hbad hkey CK;rcases hkk with rfl|rfl|rfl|rfl|rfl
 all_goals
  go_enter Tryz.func59,Tryz.ntmps59
  go_wp2_with (go_at_call 92;(with_reducible refine(CKK.out _).mono ?_);rintro e w2 ⟨rfl,rfl⟩)
  refine bodyPost_ret (v:=.tuple #[.agg #[.string ⟨#[]⟩,.int .i64 0,.int .i64 0,.int .i64 0],.int .i64 1]) (by simp[results,Tryz.results59,go_sem,tc0,tc1,tc2,tc3];try rfl) rfl ?_;exact⟨rfl,HN.out⟩
theorem zdV{w:World}{base:Nat}{Av:Nat->Prop}{n k wr0 r b nb:Nat}{V:Nat->Nat->Value}{st:St}(kind key m:Int)(text:ByteArray)(ht:text.size<=9223372036854775807)(hk1:1<=k)(hkn:k<=n)(hn:n<=10)(h:Shf w base Av n k wr0 r b nb V st):
 Calls Tryz.prog 59 #[.pointer (some ⟨b,0,none⟩),deedV kind key m text] w (kJ base Av n k wr0 r b nb (doF n k wr0 r st kind key m text) w):=by
 unfold doF;by_cases h0:kind<1\/8<kind\/(jl kind=true/\(key<0\/2<key))
 . rw[if_pos h0];exact KJ kind key m text h0 h
 . rw[if_neg h0];have hkey:kind=1\/kind=2\/kind=3\/kind=7\/kind=8->∃q:Nat,key=q/\q<3:=by
    intro hk;have h1:¬(key<0\/2<key):=fun h2=>h0 (.inr (.inr ⟨by unfold jl;simp;omega,h2⟩))
    exact⟨key.toNat,by omega,by omega⟩
   by_cases k1:kind=1
   . subst k1;obtain⟨q,rfl,hq⟩:=hkey (by omega);rw[if_pos rfl,Int.toNat_natCast];exact KR q m text hq ht hk1 hkn hn h
   . rw[if_neg k1];by_cases k2:kind=2
     . subst k2;obtain⟨q,rfl,hq⟩:=hkey (by omega);rw[if_pos rfl,Int.toNat_natCast];exact X9 q m text hq ht hk1 hkn hn h
     . rw[if_neg k2];by_cases k3:kind=3
       . subst k3;obtain⟨q,rfl,hq⟩:=hkey (by omega);rw[if_pos rfl,Int.toNat_natCast];exact Kl q m text hq hk1 hkn hn h
       . rw[if_neg k3];by_cases k8:kind=8
         . subst k8;obtain⟨q,rfl,hq⟩:=hkey (by omega);rw[if_pos rfl,Int.toNat_natCast];exact YB q m text hq hk1 hkn hn h
         . rw[if_neg k8];exact JL kind key m text (by omega) (fun h7=>by obtain⟨q,rfl,hq⟩:=hkey (by omega);omega) hn h
def St0:St:=⟨0,fun _=>false,fun _ _=>[]⟩
theorem zcA(n:Nat):(madeCells (Value.agg #[.bool false,.slice none 0 0,.slice none 0 0,.slice none 0 0]).cells (n*4)).toList=zX (n*4) (jc (fun _=>false) (fun _ _=>.slice none 0 0)):=by
 have hz:(Value.agg #[.bool false,.slice none 0 0,.slice none 0 0,.slice none 0 0]).cells=#[Value.bool false,.slice none 0 0,.slice none 0 0,.slice none 0 0]:=by rfl
 rw[hz];apply List.ext_getElem?;intro j;by_cases hj:j<n*4
 . rw[zG _ hj];unfold jc;have hm:j%4=0\/j%4=1\/j%4=2\/j%4=3:=by omega
   rcases hm with hm|hm|hm|hm<;>simp[madeCells,hj,hm]
 . rw[List.getElem?_eq_none (by simp[madeCells];omega),List.getElem?_eq_none (by rw[zC];omega)]
def JY(base:Nat)(Av:Nat->Prop)(n k wr r:Nat)(w:World)(e:Ending)(w':World):Prop:=
 ∃b nb V,e=.returned (.tuple #[.pointer (some ⟨b,0,none⟩),.int .i64 0])/\Shf w' base Av n k wr r b nb V St0/\Below w.heap.size w w'
def zdY(E:Int)(w:World)(e:Ending)(w':World):Prop:=e=.returned (.tuple #[.pointer none,.int .i64 E])/\Below w.heap.size w w'
theorem Vb(n k wr r:Int)(w:World)(hq:qp n k wr r≠0):
 Calls Tryz.prog 8 #[qV n k wr r] w (zdY (qp n k wr r) w):=by
 have hb1:=zH (zc w (.cells #[.int .i64 n,.int .i64 k,.int .i64 wr,.int .i64 r] 33));have CQ:=zH (fun W=>Qy n k wr r W);obtain⟨E,hE⟩:∃E,qp n k wr r=E:=⟨_,rfl⟩
 rw[hE]at CQ hq ⊢;have t0:(E !=0)=true:=by simp;exact hq
 clear hE hq;go_enter Tryz.func8,Tryz.ntmps8
 go_wp2_with fail
 (with_reducible refine(CQ.out _).mono ?_)
 rintro e w2 ⟨rfl,hb2⟩;have HB2:=zH (hb1.out.trans (hb2.mono hb1.out.size));clear hb2;go_wp2_with fail
 go_ret2
 exact⟨rfl,HB2.out⟩
theorem VO(n k wr r:Nat)(base:Nat)(Av:Nat->Prop)(w:World)(hq:qp n k wr r=0)(hn:n<=10)(hb:base<=w.heap.size)(hav:∀g,Av g->g<w.heap.size):
 Calls Tryz.prog 8 #[qV n k wr r] w (JY base Av n k wr r w):=by
 have hb1:=zc w (.cells #[.int .i64 (n:Int),.int .i64 k,.int .i64 wr,.int .i64 r] 33);have HB1:=zH hb1;have CQ:=zH (fun W=>Qy n k wr r W);rw[hq]at CQ;obtain⟨MC,hMC⟩:∃MC,madeCells (Value.agg #[.bool false,.slice none 0 0,.slice none 0 0,.slice none 0 0]).cells (n*4)=MC:=⟨_,rfl⟩
 have hrow:=zcA n;rw[hMC]at hrow;have MK:∀W:World,(Instr.makeSlice 47 (.int .i64 (n:Int)) (.int .i64 (n:Int))).run Tryz.prog W=.ok (.slice (some ⟨W.heap.size,0,none⟩) n n) (W.alloc (.cells MC 187)):=by
  intro W;obtain⟨i,hi,hz,hsize,hby,hzs,hsz⟩:=zdM;have h:=run_make (P:=Tryz.prog) W 47 187 i _ Tryz.underlying47 hi hz .i64 .i64 (n:Int) (n:Int) (by omega) (Int.le_refl _) (by rw[hby];omega) (by omega);rw[h,hsize];rw[<-hMC];simp
 have HROW:=zH hrow;have HAV:=zH hav;have HBS:=zH hb;clear hq hMC hrow hav hb hb1;go_enter Tryz.func8,Tryz.ntmps8
 go_wp2_with fail
 (with_reducible refine(CQ.out _).mono ?_)
 rintro e w2 ⟨rfl,hb2⟩;have hl:w.heap.size<(w.alloc (.cells #[.int .i64 (n:Int),.int .i64 k,.int .i64 wr,.int .i64 r] 33)).heap.size:=by simp
 have h2:=(hb2.block w.heap.size hl).trans (heap_alloc_new w _);obtain⟨q0,q1,q2,q3⟩:=zc4 h2;have HB2:Hid (Below w.heap.size w w2):=zH (HB1.out.trans (hb2.mono HB1.out.size));clear hb2 h2 hl CQ;go_wp2_with fail
 go_region_held (fun w'=>w'.cell? ⟨w.heap.size,0,none⟩=some (.int .i64 (n:Int))/\w'.cell? ⟨w.heap.size,1,none⟩=some (.int .i64 (k:Int))/\w'.cell? ⟨w.heap.size,2,none⟩=some (.int .i64 (wr:Int))/\w'.cell? ⟨w.heap.size,3,none⟩=some (.int .i64 (r:Int))) (go_keep) (fail)
 all_goals
  go_wp2_with fail
  go_ret2
  refine⟨w2.heap.size+1,w2.heap.size,fun _ _=>.slice none 0 0,rfl,?_,?_⟩
  . refine⟨?_,?_,?_,?_,?_,?_,?_,?_,?_,Okst.init⟩
    . have:=HB2.out.size;have:=HBS.out;omega
    . exact zl _ _ _ (by simp)
    . have hms:MC.size=n*4:=by
       have:=congrArg List.length HROW.out;rw[zC]at this;simpa using this
      refine⟨by rw[zC,Nat.mul_one],.inr ⟨w2.heap.size,n*4,MC,rfl,?_,za _ _ (heap_alloc_new w2 _),Nat.le_refl _,by unfold maxLen;omega,by rw[Nat.mul_one];exact hms,?_⟩⟩
      . have:=HB2.out.size;have:=HBS.out;omega
      . rw[Nat.mul_one,HROW.out,List.take_of_length_le (by rw[zC];omega)];rfl
    . intro i key _ _;exact World.ownsRow_nil _ _ _ _
    . intro i key j key' _ _ _ _ _ g hg;cases hg
    . intro i key _ _;exact⟨(by intro e;cases e),(by intro e;cases e)⟩
    . omega
    . intro g hg;have h1:=HAV.out g hg;have h2:=HB2.out.size;refine⟨?_,by omega,by omega⟩;show g<((w2.alloc _).alloc _).heap.size;simp;omega
    . intro i key g _ _ hg;cases hg
  . exact zb ((HB2.out.alloc HB2.out.size _).alloc (by have:=HB2.out.size;simp;omega) _)
def zgj(base:Nat)(l:List Kp)(n:Nat)(w:World)(e:Ending)(w':World):Prop:=
 ∃ao cap,e=.returned (.slice ao n cap)/\w'.ownsRow base 106 3 (.slice ao n cap) n (zw l)/\Below base w w'
def zfY(l:List Kp)(d:Bool)(w:World)(e:Ending)(w':World):Prop:=
 ∃ao cap,e=.returned (.tuple #[.slice ao l.length cap,.bool (!d),.int .i64 0])/\w'.ownsRow w.heap.size 106 3 (.slice ao l.length cap) l.length (zw l)/\Below w.heap.size w w'
def zf1(w:World)(e:Ending)(w':World):Prop:=e=.returned (.tuple #[.slice none 0 0,.bool false,.int .i64 1])/\w'=w
abbrev It:=Nat×Nat×Kp
def atB(i key:Nat)(x:It):Bool:=x.1==i&&x.2.1==key
def zP(l:List It)(i key:Nat):List Kp:=(l.filter (atB i key)).map (·.2.2)
def itC(x:It):List Value:=[.int .i64 (x.1:Int),.int .i64 (x.2.1:Int),.int .i64 (x.2.2.1:Int),.int .i64 0,.string x.2.2.2]
def ze(l:List It):List Value:=l.flatMap itC
theorem kd(l:List It):(ze l).length=l.length*5:=by
 unfold ze;induction l with
 |nil=>rfl
 |cons x t ih=>rw[List.flatMap_cons,List.length_append,ih];simp[itC];omega
theorem yG(l:List It)(x:It):ze (l++[x])=ze l++itC x:=by simp[ze]
theorem pg(l m:List It):ze (l++m)=ze l++ze m:=by simp[ze]
theorem JZ(l:List It):∀u∈ze l,u.oneCell'=true:=by
 intro u hu;obtain⟨x,_,hx⟩:=List.mem_flatMap.1 hu;simp[itC]at hx;rcases hx with rfl|rfl|rfl|rfl|rfl<;>rfl
theorem je{l:List It}{j:Nat}{x:It}(h:l[j]?=some x):∀q,q<5->(ze l)[j*5+q]?=(itC x)[q]? :=by
 induction l generalizing j with
 |nil=>simp at h
 |cons y t ih=>
  intro q hq;have e:ze (y::t)=itC y++ze t:=by simp[ze]
  have h4:(itC y).length=5:=rfl;rw[e];cases j with
  |zero=>
   simp at h;subst h;rw[List.getElem?_append_left (by rw[h4];omega)]
   congr 1
   omega
  |succ j=>
   have h2:t[j]?=some x:=by simpa using h
   rw[List.getElem?_append_right (by rw[h4];omega),h4,show(j+1)*5+q-5=j*5+q by omega];exact ih h2 q hq
theorem ke{w:World}{ao:Option Addr}{l:List It}(h:Reads w ao (ze l)){k:Nat}{x:It}(hk:l[k]?=some x):
 ∃b o,ao=some ⟨b,o,none⟩/\w.cell? ⟨b,o+k*5,none⟩=some (.int .i64 (x.1:Int))/\w.cell? ⟨b,o+k*5+1,none⟩=some (.int .i64 (x.2.1:Int))/\w.cell? ⟨b,o+k*5+2,none⟩=some (.int .i64 (x.2.2.1:Int))/\
  w.cell? ⟨b,o+k*5+3,none⟩=some (.int .i64 0)/\w.cell? ⟨b,o+k*5+4,none⟩=some (.string x.2.2.2):=by
 have g:=je hk;obtain⟨b,o,rfl,c0⟩:=h (k*5+0) _ (g 0 (by omega));obtain⟨b1,o1,e1,c1⟩:=h (k*5+1) _ (g 1 (by omega));obtain⟨b2,o2,e2,c2⟩:=h (k*5+2) _ (g 2 (by omega));obtain⟨b3,o3,e3,c3⟩:=h (k*5+3) _ (g 3 (by omega));obtain⟨b4,o4,e4,c4⟩:=h (k*5+4) _ (g 4 (by omega));cases e1;cases e2;cases e3;cases e4;exact⟨b,o,rfl,c0,by rw[Nat.add_assoc];exact c1,by rw[Nat.add_assoc];exact c2,by rw[Nat.add_assoc];exact c3,by rw[Nat.add_assoc];exact c4⟩
theorem qI:yb Tryz.prog 108 (.agg #[.int .i64 0,.int .i64 0,.int .i64 0,.int .i64 0,.string ByteArray.empty]) 5 48:=yf (by kernel_rfl) rfl (by omega)
abbrev shC(n k wr r D m:Nat)(v:Value):Array Value:=#[.int .i64 (n:Int),.int .i64 (k:Int),.int .i64 (wr:Int),.int .i64 (r:Int),.int .u16 (D:Int),.int .i64 (m:Int),v]
structure Shl (n D:Nat) (All:List It) (st:St):Prop where
 kp:∀i key,i<n->key<3->zP All i key=st.kp i key
 dn:∀i,i<n->st.dn i=decide (D / 2^i%2=1)
 d:D<65536
 it:∀x∈All,x.1<n/\x.2.1<3
 ok:Okst st
theorem J0{α:Type}(f:α->Nat)(B:Nat)(l:List α)(h:∀c,(l.filter (fun x=>f x==c)).length<=B):∀c,(l.filter (fun x=>decide (f x<c))).length<=c*B
 |0=>by rw[List.filter_eq_nil_iff.2 (by simp)];simp
 |c+1=>by
  have ih:=J0 f B l h c;have h1:=h c;have e:(l.filter (fun x=>decide (f x<c+1))).length=(l.filter (fun x=>decide (f x<c))).length+(l.filter (fun x=>f x==c)).length:=by
   clear ih h1 h;induction l with
   |nil=>rfl
   |cons x t ih=>
    rw[List.filter_cons,List.filter_cons,List.filter_cons];by_cases h1:f x<c
    . rw[if_pos (by simpa using(by omega:f x<c+1)),if_pos (by simpa using h1),if_neg (by simp;omega)];simp only[List.length_cons];omega
    . by_cases h2:f x=c
      . rw[if_pos (by simpa using(by omega:f x<c+1)),if_neg (by simpa using h1),if_pos (by simpa using h2)];simp only[List.length_cons];omega
      . rw[if_neg (by simp;omega),if_neg (by simpa using h1),if_neg (by simpa using h2)];exact ih
  rw[e,Nat.succ_mul];omega
theorem Shl.len{n D:Nat}{All:List It}{st:St}(h:Shl n D All st)(hn:n<=10):All.length<=30000000:=by
 have h1:∀c,(All.filter (fun x=>x.1*3+x.2.1==c)).length<=1000000:=by
  intro c;by_cases hc:c / 3<n
  . have e:=h.kp (c / 3) (c%3) hc (by omega);have e2:All.filter (fun x=>x.1*3+x.2.1==c)=All.filter (atB (c / 3) (c%3)):=by
     apply List.filter_congr;intro x hx;have:=h.it x hx;unfold atB;rw[Bool.eq_iff_iff];simp;omega
    rw[e2];have e3:(zP All (c / 3) (c%3)).length=(All.filter (atB (c / 3) (c%3))).length:=by unfold zP;rw[List.length_map]
    rw[<-e3,e];exact h.ok.len _ _
  . rw[List.filter_eq_nil_iff.2 (by
     intro x hx;have:=h.it x hx;simp;omega)]
    simp
 have h2:=J0 (fun x:It=>x.1*3+x.2.1) 1000000 All h1 30;have h3:All.filter (fun x=>decide (x.1*3+x.2.1<30))=All:=by
  rw[List.filter_eq_self];intro x hx;have:=h.it x hx;simp;omega
 rw[h3]at h2;exact h2
theorem Kg{n D:Nat}{All:List It}{st:St}(k wr r m:Nat)(v:Value)(w:World)(hn:n<=10)(hv:∃ao len cap,v=.slice ao len cap)(h:Shl n D All st):
 Calls Tryz.prog 76 #[.agg (shC n k wr r D m v)] w (kr (ups n st) w):=by
 obtain⟨av,lv,cv,rfl⟩:=hv;have HD:=zH h.dn;have hd16:=h.d;obtain⟨W1,hW1⟩:∃W1,w.alloc (.cells (shC n k wr r D m (.slice av lv cv)) 41)=W1:=⟨_,rfl⟩
 have hb1:Below w.heap.size w W1:=by rw[<-hW1];exact zc _ _
 have h1:W1.heap[w.heap.size]?=some (.cells (shC n k wr r D m (.slice av lv cv)) 41 (0,0)):=by rw[<-hW1];exact heap_alloc_new w _
 have c0:=zd h1 0;have c4:=zd h1 4;simp only[List.getElem?_toArray,List.getElem?_cons_zero,List.getElem?_cons_succ]at c0 c4;have HZ:Hid (w.heap.size<W1.heap.size):=zH (by rw[<-hW1];simp);have HC4:=zH c4;have HB1:=zH hb1;obtain⟨gb,hgb⟩:∃gb,W1.heap.size=gb:=⟨_,rfl⟩
 have HGB:=zH hgb;clear h hb1 h1 hgb;go_enter Tryz.func76,Tryz.ntmps76
 go_wp2_with fail
 clear hW1;go_loopw [3,8] (fun vo vi wr=>∃i:Nat,vi=.int .i64 i/\i<=n/\Hid (wr.ownsRow gb 3 1 vo (pl (fun i=> !st.dn i) i).length (zZ (pl (fun i=> !st.dn i) i)))/\Hid (Below gb W1 wr)) (fun _ vi _=>n-(intOf vi).toNat)
 case atStart=>exact⟨0,rfl,by omega,zH (World.ownsRow_nil _ _ _ _),zH (Below.refl _ _)⟩
 case round=>
  obtain⟨i,rfl,hi,HO,HB⟩:=hrel;obtain⟨wo,rfl⟩:∃wo,wo=wr:=⟨_,rfl⟩
  have HB':Hid (Below W1.heap.size W1 wo):=zH (by rw[HGB.out];exact HB.out);by_cases hin:i<n
  . have x4:=(HB'.out.cell (p:=⟨w.heap.size,4,none⟩) HZ.out).trans HC4.out;obtain⟨q,hq⟩:∃q,D / 2^i=q:=⟨_,rfl⟩
    have hdi:=HD.out i hin;rw[hq]at hdi;have hq16:q<65536:=by rw[<-hq];exact Nat.lt_of_le_of_lt (Nat.div_le_self _ _) hd16
    have e1:(D:Int) / 2^i=(q:Int):=by rw[<-hq];norm_cast
    have e2:bits .and .u16 (q:Int) 1=((q%2:Nat):Int):=by
     have:=u16_and_nat q 1 hq16 (by omega);rw[Nat.and_one_is_mod]at this;exact this
    obtain⟨p,hp⟩:∃p,q%2=p:=⟨_,rfl⟩
    rw[hp]at e2 hdi;have hp2:p<2:=by omega
    have i0:(0:Int)<=(i:Int):=by omega
    have i16:(i:Int)<=16:=by omega
    have hsu:=J9 st.dn i;have hpl:=Yp (fun i=> !st.dn i) i;by_cases hp1:p=1
    . have t0:((p:Int)==0)=false:=by simp;omega
      have hd:st.dn i=true:=by rw[hdi];simp[hp1]
      rw[hd,if_pos rfl]at hsu;have HSU:=zH hsu;clear hsu hd hdi hq hp hp1;go_wp2_with fail
      go_roundw
      case rel=>exact⟨i+1,by go_num,by omega,zH (by rw[HSU.out];exact HO.out),HB⟩
      case measure=>simp[intOf];omega
    . have t0:((p:Int)==0)=true:=by simp;omega
      have hd:st.dn i=false:=by rw[hdi];simp[hp1]
      rw[hd]at hsu;simp only[Bool.false_eq_true,if_false]at hsu;have HSU:=zH hsu;clear hsu hd hdi hq hp hp1;go_wp2_with (first
       |(at_builtin;go_loud (refine yr rfl (.tmp 17) (.tmp 19) 62 rfl gb 3 _ 1 8 Tryz.underlying62 J8 _ _ _ (by rfl) HO.out [.int .i64 (i:Int)] (by rfl) rfl (by intro u hu;simp at hu;subst hu;rfl) (by unfold maxLen;omega) (by omega) (by rw[<-HGB.out];exact HB'.out.size) ?_);intro v5 w5 hown5 hgr5 hb5;have HO5:Hid (w5.ownsRow gb 3 1 v5 (pl (fun i=> !st.dn i) (i+1)).length (zZ (pl (fun i=> !st.dn i) (i+1)))):=zH (by rw[HSU.out];rw[List.length_append,vW];exact hown5);have HB5:=zH (HB.out.trans hb5);clear hown5 hgr5 hb5)
       |fail)
      go_roundw
      case rel=>exact⟨i+1,by go_num,by omega,HO5,HB5⟩
      case measure=>simp[intOf];omega
  . obtain rfl:n=i:=by omega
    obtain⟨ao,cap,rfl,_,_,_⟩:=zr HO.out;go_wp2_with fail
    go_ret
    exact⟨ao,cap,rfl,qm HO.out (by rw[<-HGB.out];exact HB1.out.size),HB1.out.trans (HB'.out.mono HB1.out.size)⟩
def kH(l:List Kp)(w:World)(e:Ending)(w':World):Prop:=
 ∃ao cap,e=.returned (.slice ao l.length cap)/\w'.ownsRow w.heap.size 106 3 (.slice ao l.length cap) l.length (zw l)/\Below w.heap.size w w'
theorem K9{l:List It}{q:Nat}{x:It}(i key:Nat)(h:l[q]?=some x):zP (l.take (q+1)) i key=zP (l.take q) i key++if atB i key x=true then[x.2.2] else[]:=by
 obtain⟨hq,he⟩:=List.getElem?_eq_some_iff.1 h;unfold zP;rw[List.take_succ_eq_append_getElem hq,he,List.filter_append,List.map_append];by_cases hx:atB i key x=true
 . rw[if_pos hx];simp[hx]
 . rw[if_neg hx];simp[hx]
theorem vK(n k wr r D m:Nat)(ao:Option Addr)(la ca:Nat)(All:List It)(i key:Nat)(w:World)(hla:All.length=la)(hl:la<=30000000)(hR:Hid (Reads w ao (ze All))):
 Calls Tryz.prog 52 #[.agg (shC n k wr r D m (.slice ao la ca)),.int .i64 (i:Int),.int .i64 (key:Int)] w (kH (zP All i key) w):=by
 obtain⟨W1,hW1⟩:∃W1,w.alloc (.cells (shC n k wr r D m (.slice ao la ca)) 41)=W1:=⟨_,rfl⟩
 have hb1:Below w.heap.size w W1:=by rw[<-hW1];exact zc _ _
 have h1:W1.heap[w.heap.size]?=some (.cells (shC n k wr r D m (.slice ao la ca)) 41 (0,0)):=by rw[<-hW1];exact heap_alloc_new w _
 have c6:=zd h1 6;simp only[List.getElem?_toArray,List.getElem?_cons_zero,List.getElem?_cons_succ]at c6;have HB1:=zH hb1;have HLA:=zH hla;obtain⟨gb,hgb⟩:∃gb,W1.heap.size=gb:=⟨_,rfl⟩
 have HGB:=zH hgb;clear hb1 h1 hgb hla;go_enter Tryz.func52,Tryz.ntmps52
 go_wp2_with fail
 clear hW1;go_loopw [7,13] (fun vo vj wr=>∃j:Nat,vj=.int .i64 j/\j<=la/\Hid (wr.ownsRow gb 106 3 vo (zP (All.take j) i key).length (zw (zP (All.take j) i key)))/\Hid (Below gb W1 wr)) (fun _ vj _=>la-(intOf vj).toNat)
 case atStart=>exact⟨0,rfl,by omega,zH (World.ownsRow_nil _ _ _ _),zH (Below.refl _ _)⟩
 case round=>
  obtain⟨j,rfl,hj,HO,HB⟩:=hrel;obtain⟨wo,rfl⟩:∃wo,wo=wr:=⟨_,rfl⟩
  have HB':Hid (Below W1.heap.size W1 wo):=zH (by rw[HGB.out];exact HB.out);by_cases hjl:j<la
  . obtain⟨x,hx⟩:∃x,All[j]?=some x:=⟨All[j]'(by rw[HLA.out];exact hjl),List.getElem?_eq_getElem _⟩
    obtain⟨ba,oa,hra,z0,z1,z2,z3,z4⟩:=ke ((hR.out.below HB1.out).below HB'.out) hx;cases hra;have HSN:=zH (K9 i key hx);have hkl:(zP (All.take j) i key).length<=j:=by
     unfold zP;rw[List.length_map];exact Nat.le_trans (List.length_filter_le _ _) (List.length_take_le _ _)
    obtain⟨a,b,c,s⟩:=x;obtain⟨kl,hkl2⟩:∃kl,(zP (All.take j) i key).length=kl:=⟨_,rfl⟩
    rw[hkl2]at HO hkl;have HKL:=zH hkl2;have hbx:=zc wo (.cells #[.int .i64 (a:Int),.int .i64 (b:Int),.int .i64 (c:Int),.int .i64 0,.string s] 108);have HOx:=zH (zi HO.out hbx);have HBx:Hid (Below gb W1 (wo.alloc (.cells #[.int .i64 (a:Int),.int .i64 (b:Int),.int .i64 (c:Int),.int .i64 0,.string s] 108))):=zH (HB.out.alloc (by rw[<-HGB.out];exact HB'.out.size) _);clear hx hkl2 hbx;by_cases h1:a=i
    . by_cases h2:b=key
      . have t1:((a:Int)==(i:Int))=true:=by simp;omega
        have t2:((b:Int)==(key:Int))=true:=by simp;omega
        have HAT:Hid (atB i key (a,b,c,s)=true):=zH (by unfold atB;simp[h1,h2]);clear h1 h2;go_wp2_with (first
         |(at_builtin;go_loud (refine yr rfl (.tmp 27) (.tmp 30) 111 rfl gb 106 _ 3 32 Tryz.underlying111 Xk _ _ _ (by rfl) HOx.out [.int .i64 (c:Int),.int .i64 0,.string s] (by rw[World.size_alloc];rfl) rfl (by intro u hu;simp at hu;rcases hu with rfl|rfl|rfl<;>rfl) (by unfold maxLen;omega) (by omega) (by rw[<-HGB.out];rw[HGB.out];exact Nat.le_trans (by rw[<-HGB.out];exact Nat.le_refl _) HBx.out.size) ?_);intro v5 w5 hown5 hgr5 hb5;have HO5:Hid (w5.ownsRow gb 106 3 v5 (zP (All.take (j+1)) i key).length (zw (zP (All.take (j+1)) i key))):=zH (by rw[HSN.out,if_pos HAT.out,List.length_append,HKL.out,kB];exact hown5);have HB5:=zH (HBx.out.trans hb5);clear hown5 hgr5 hb5)
         |fail)
        go_roundw
        case rel=>exact⟨j+1,by go_num,by omega,HO5,HB5⟩
        case measure=>simp[intOf];omega
      . have t1:((a:Int)==(i:Int))=true:=by simp;omega
        have t2:((b:Int)==(key:Int))=false:=by simp;omega
        have HAT:Hid (¬atB i key (a,b,c,s)=true):=zH (by unfold atB;simp[h2]);have HO5:Hid ((wo.alloc (.cells #[.int .i64 (a:Int),.int .i64 (b:Int),.int .i64 (c:Int),.int .i64 0,.string s] 108)).ownsRow gb 106 3 u7 (zP (All.take (j+1)) i key).length (zw (zP (All.take (j+1)) i key))):=zH (by rw[HSN.out,if_neg HAT.out,List.append_nil,HKL.out];exact HOx.out);clear h1 h2;go_wp2_with fail
        go_roundw
        case rel=>exact⟨j+1,by go_num,by omega,HO5,HBx⟩
        case measure=>simp[intOf];omega
    . have t1:((a:Int)==(i:Int))=false:=by simp;omega
      have HAT:Hid (¬atB i key (a,b,c,s)=true):=zH (by unfold atB;simp[h1]);have HO5:Hid ((wo.alloc (.cells #[.int .i64 (a:Int),.int .i64 (b:Int),.int .i64 (c:Int),.int .i64 0,.string s] 108)).ownsRow gb 106 3 u7 (zP (All.take (j+1)) i key).length (zw (zP (All.take (j+1)) i key))):=zH (by rw[HSN.out,if_neg HAT.out,List.append_nil,HKL.out];exact HOx.out);clear h1;go_wp2_with fail
      go_roundw
      case rel=>exact⟨j+1,by go_num,by omega,HO5,HBx⟩
      case measure=>simp[intOf];omega
  . obtain rfl:la=j:=by omega
    have hO:=HO.out;rw[List.take_of_length_le (by rw[HLA.out];exact Nat.le_refl _)]at hO;obtain⟨ar,cr,rfl,_,_,_⟩:=zr hO;have HO9:=zH hO;clear hO;go_wp2_with fail
    go_ret
    exact⟨ar,cr,rfl,qm HO9.out (by rw[<-HGB.out];exact HB1.out.size),HB1.out.trans (HB'.out.mono HB1.out.size)⟩
end Go.Proofs.YtmgfbmkfomebcaaGreatDoor
