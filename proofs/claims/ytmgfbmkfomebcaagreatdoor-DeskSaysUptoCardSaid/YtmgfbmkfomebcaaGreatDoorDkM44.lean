/- wholeref.AnswerOf at new. (Printed by wip/tools/gen_desk6.py.) -/
import Derived.Test.YtmgfbmkfomebcaaGreatDoorDkM43xDeskO
import Derived.Test.YtmgfbmkfomebcaaGreatDoorDkM16
set_option linter.unusedVariables false
set_option linter.unusedSimpArgs false
set_option maxRecDepth 100000
set_option maxHeartbeats 8000000
namespace Go.Proofs.YtmgfbmkfomebcaaGreatDoor
open Go.RowKit
theorem YD(n k wr0 r:Nat)(w:World):
 Calls Tryz.prog 10 #[qV n k wr0 r] w fun e w'=>e=.returned (.agg (shC n k wr0 r 0 0 (.slice none 0 0)))/\Below w.heap.size w w':=by
 have hb:=zH ((zc w (.cells #[.int .i64 (n:Int),.int .i64 k,.int .i64 wr0,.int .i64 r] 33)).alloc (by simp) (.cells #[.int .i64 (n:Int),.int .i64 (k:Int),.int .i64 (wr0:Int),.int .i64 (r:Int),.int .u16 0,.int .i64 0,.slice none 0 0] 41));have HQ:=zH (za (w.alloc (.cells #[.int .i64 (n:Int),.int .i64 (k:Int),.int .i64 (wr0:Int),.int .i64 (r:Int)] 33)) (.cells #[.int .i64 0,.int .i64 0,.int .i64 0,.int .i64 0,.int .u16 0,.int .i64 0,.slice none 0 0] 41) (heap_alloc_new w _));have HH:=zH (zl (w.alloc (.cells #[.int .i64 (n:Int),.int .i64 (k:Int),.int .i64 (wr0:Int),.int .i64 (r:Int)] 33)) (.cells #[.int .i64 (n:Int),.int .i64 (k:Int),.int .i64 (wr0:Int),.int .i64 (r:Int),.int .u16 0,.int .i64 0,.slice none 0 0] 41) (w.heap.size+1) (by simp));obtain⟨x0,x1,x2,x3⟩:=zc4 HQ.out;obtain⟨y0,y1,y2,y3,y4,y5,y6⟩:=zc7 HH.out;go_enter Tryz.func10,Tryz.ntmps10
 go_wp2_with fail
 refine bodyPost_ret (v:=.agg (shC n k wr0 r 0 0 (.slice none 0 0))) (by simp[results,Tryz.results10,go_sem,y0,y1,y2,y3,y4,y5,y6];try rfl) rfl ?_;exact⟨rfl,hb.out⟩
def zeu(sh:Array Value):Option (List Nat×ByteArray)->Array Value×ByteArray
 |none=>(sh,zt 12)
 |some (x,_)=>if qp (x.getD 0 0) (x.getD 1 0) (x.getD 2 0) (x.getD 3 0)≠0 then(sh,zt (qp (x.getD 0 0) (x.getD 1 0) (x.getD 2 0) (x.getD 3 0)))
  else(shC (x.getD 0 0) (x.getD 1 0) (x.getD 2 0) (x.getD 3 0) 0 0 (.slice none 0 0),dkOK)
theorem zaF(a b c d:Int):0<=qp a b c d/\qp a b c d<=9:=by
 unfold qp
 split<;>(try split)<;>omega
theorem zev(n k wr0 r D mw la ca:Nat)(ao:Option Addr)(w:World)(hW:DkW w)(x:ByteArray)(hx:x.size<=4294967296)(ws:List ByteArray)(hws:zL x=Cm.new.name::ws)(hlen:ws.length=Cm.new.form.length)(R:Option (List Nat×ByteArray))(hF:zB Cm.new.form ws=R)(Z:Array Value×ByteArray)(HZ:Hid (Z=zeu (shC n k wr0 r D mw (.slice ao la ca)) R)):
 Calls Tryz.prog 11 #[.agg (shC n k wr0 r D mw (.slice ao la ca)),.string x] w (pN Z.1 Z.2 w):=by
 obtain⟨Z1,Z2⟩:=Z;dsimp only;have hz:∀y∈Cm.new.name::ws,y.size<=9223372036854775807:=fun y hy=>by have:=zN (s:=x) (x:=y) (by rw[hws];exact hy);omega
 have hmf:∀(fn:Fn) (first cap:Array Value) (w:World),(Instr.makeFunc fn first cap).run Tryz.prog w=.ok (.func fn first cap) w:=fun _ _ _ _=>rfl
 have bx0:=Bx.first w (shC n k wr0 r D mw (.slice ao la ca));obtain⟨W1,hW1⟩:∃W1,(w.alloc (.cells (shC n k wr0 r D mw (.slice ao la ca)) 41)).alloc (.cells shZ 41)=W1:=⟨_,rfl⟩
 rw[hW1]at bx0;have CF:=zH (yp x W1 hx);unfold zM at CF;rw[hws]at CF;have CR:=zH fun X (hX:Below w.heap.size w X)=>zx 12 (by omega) (by omega) X (hW.below hX)
 unfold zq at CR;have BX0:=zH bx0;clear bx0;go_enter Tryz.func11,Tryz.ntmps11
 go_wp2_with fail
 (with_reducible refine CF.out.mono ?_);rintro e w2 ⟨A,rfl,hA,hown,hb2⟩
 obtain⟨c0,hIn,hA1,hA2⟩:=yA hz hown;have bx2:=BX0.out.below hb2;obtain⟨nn,hn⟩:∃nn,ws.length=nn:=⟨_,rfl⟩
 rw[hn]at hIn;simp only[List.length_cons,hn];have hn0:nn<=9223372036854775807:=hIn.2.1;have hsl:=yn A nn;have hne:w.heap.size≠w.heap.size+1:=by omega
 have d0:¬((nn:Int)+1=0):=by omega
 have BX2:=zH bx2;have HIN:=zH hIn;have HNN:=zH hn;clear bx2 hb2 hA CF hW1 hn hIn hown hz;go_wp2_with fail
 go_quiet (fail)
 obtain⟨w4,hw4⟩:∃w4,w2.drewN nq=w4:=⟨_,rfl⟩
 rw[hw4];have hb4:Below w2.heap.size w2 w4:=by rw[<-hw4];exact zg (Below.refl _ _) nq
 have BX4:=zH (BX2.out.below hb4);have HI4:=zH (HIN.out.below hb4);have hmm:=@run_makeMap Tryz.prog;obtain⟨v1,v2,v3,v4,v5,v6,v7,v8,v9,v10,v11,v12,Wm,r1,r2,r3,r4,r5,r6,r7,r8,r9,r10,r11,r12,r13,⟨hl1,hl2⟩,hbm⟩:=yW Tryz.underlying61 Tryz.underlying9 Tryz.zeroValue3 w4;have BX:=zH (BX4.out.below hbm);have HI:=zH (HI4.out.below hbm);clear hw4 hb4 hbm BX4 HI4 HIN BX2 BX0 c0 hsl hA1 hA2
 skip
 have hl:=hl1 .new;unfold Cm.many Cm.name at hl;unfold Cm.name;have enn:nn=4:=by have:=HNN.out;rw[hlen]at this;exact this.symm
 subst enn;have ht1:yS 4=1:=rfl;rw[ht1]at HI ⊢;clear hl1 hl2 ht1;have hFD:yd [110,110,110,110] ws [] ByteArray.empty=R:=by
  rw[<-hF];unfold zB;rw[if_neg (fun h=>h hlen)];rfl
 have HFD:=zH hFD;have HWL:Hid (ws.length=4):=zH hlen;clear hFD hlen;go_wp2_with fail
 clear r1 r2 r3 r4 r5 r6 r7 r8 r9 r10 r11 r12 r13 hmm hl;obtain⟨w5,rfl⟩:∃w5,w5=Wm:=⟨_,rfl⟩
 have BX5:=BX;have HI5:=HI;clear BX HI;go_loopw [12,72] (fun vx vj wr=>∃(j:Nat) (acc:List Nat),vj=.int .i64 j/\j<=4/\acc.length=j/\Hid (yd (([110,110,110,110]:List UInt8).drop j) (ws.drop j) acc ByteArray.empty=R)/\Hid (wr.ownsRow w5.heap.size 3 1 vx acc.length (acc.map qU))/\Hid (Below w5.heap.size w5 wr)) (fun _ vj _=>4-(intOf vj).toNat)
 case atStart=>exact⟨0,[],rfl,by omega,rfl,HFD,zH (World.ownsRow_nil _ _ _ _),zH (Below.refl _ _)⟩
 case round=>
  obtain⟨j,acc,rfl,hj,hacc,HD,HO,HB⟩:=hrel;obtain⟨wo,rfl⟩:∃wo,wo=wr:=⟨_,rfl⟩
  by_cases hjl:j<4
  . have hjw:j<ws.length:=by rw[HWL.out];omega
    have hjf:j<([110,110,110,110]:List UInt8).length:=by show j<4;omega
    have hstep:=ye hjf hjw acc ByteArray.empty;rw[if_neg (vL (K:=4) rfl hjl hjf),HD.out]at hstep;obtain⟨y,hy⟩:∃y,ws[j]=y:=⟨_,rfl⟩
    have hym:y∈ws:=by rw[<-hy];exact List.getElem_mem _
    obtain⟨bq,oq,hbo,hc0⟩:=HI5.out.2.2.2 j (.string y) (by rw[List.getElem?_map,List.getElem?_eq_getElem hjw,hy];rfl);cases hbo;have hc:=(HB.out.cell (p:=⟨A,1+j,none⟩) (World.block_lt_of_cell? _ _ hc0)).trans hc0;have hys:=HI5.out.2.2.1 y hym;rw[hy]at hstep;have CX:=zH fun W=>yE y W hys
    unfold qk at CX;have k2:(j:Int)<4:=by omega
    cases hnum:y7 y with
    |none=>
     rw[hnum]at hstep CX;have HT0:Hid ((Z1,Z2)=(shC n k wr0 r D mw (.slice ao la ca),zt 12)):=zH (by rw[HZ.out,hstep];rfl);clear hstep hy hc0 hnum;go_wp2_with (go_at_call 23;(with_reducible refine(CX.out _).mono ?_);rintro e w9 ⟨rfl,hb9⟩)
     have BX:=zH ((BX5.out.below HB.out).below hb9);clear hb9 CX hc HD HO HB HI5 BX5 HFD HWL hym hys hjw hjf hacc hjl hj k2 HNN d0 hn0 hmf;obtain⟨hbxx, -⟩:Bx w _ (shC n k wr0 r D mw (.slice ao la ca)) shZ/\True:=⟨BX.out,trivial⟩
     obtain⟨x0,x1,x2,x3,x4,x5,x6⟩:=hbxx.old;obtain⟨⟨z0,z1,z2,z3,z4,z5,z6⟩,f0,f1,f2,f3,f4,f5,f6⟩:=hbxx.res;clear hbxx;go_wp2_with fail
     go_region_held3 (fun w'=>w'.cell? ⟨w.heap.size,0,none⟩=some (.int .i64 (n:Int))/\w'.cell? ⟨w.heap.size,1,none⟩=some (.int .i64 (k:Int))/\w'.cell? ⟨w.heap.size,2,none⟩=some (.int .i64 (wr0:Int))/\w'.cell? ⟨w.heap.size,3,none⟩=some (.int .i64 (r:Int))/\w'.cell? ⟨w.heap.size,4,none⟩=some (.int .u16 (D:Int))/\w'.cell? ⟨w.heap.size,5,none⟩=some (.int .i64 (mw:Int))/\w'.cell? ⟨w.heap.size,6,none⟩=some (.slice ao la ca)) (first|(with_reducible exact HKK.out)|(with_reducible exact(BX.out.put7 _ _ _ _ _ _ _).old)|(with_reducible exact(BZ.out.put7 _ _ _ _ _ _ _).old)|go_keep)
      (first|(go_at_call 22;(with_reducible refine(CR.out _ (by first|exact BX.out.b|exact BX.out.drew.b|exact(BX.out.put7 _ _ _ _ _ _ _).b|exact(BX.out.put7 _ _ _ _ _ _ _).drew.b)).mono ?_);rintro e w3 ⟨rfl,hb3⟩;(first|(have BZ:=zH (BX.out.below hb3))|(have BZ:=zH (BX.out.drew.below hb3))|(have BZ:=zH ((BX.out.put7 _ _ _ _ _ _ _).below hb3))|(have BZ:=zH ((BX.out.put7 _ _ _ _ _ _ _).drew.below hb3)));have HKK:=zH BZ.out.old;(first|(obtain⟨⟨zz0,zz1,zz2,zz3,zz4,zz5,zz6⟩,ff0,ff1,ff2,ff3,ff4,ff5,ff6⟩:=BZ.out.res)|skip)))
     obtain⟨q0,q1,q2,q3,q4,q5,q6⟩:=zv (BZ.out.put7 (.int .i64 (n:Int)) (.int .i64 (k:Int)) (.int .i64 (wr0:Int)) (.int .i64 (r:Int)) (.int .u16 (D:Int)) (.int .i64 (mw:Int)) (.slice ao la ca)).r;have hbz:=(BZ.out.put7 (.int .i64 (n:Int)) (.int .i64 (k:Int)) (.int .i64 (wr0:Int)) (.int .i64 (r:Int)) (.int .u16 (D:Int)) (.int .i64 (mw:Int)) (.slice ao la ca)).b;unfold put7 at q0 q1 q2 q3 q4 q5 q6 hbz;have HBZ:=zH hbz;clear hbz;go_wp2_with fail
     refine bodyPost_ret (v:=.tuple #[.agg (shC n k wr0 r D mw (.slice ao la ca)),.string (zt 12)]) (by simp[results,Tryz.results11,go_sem,q0,q1,q2,q3,q4,q5,q6];try rfl) rfl ?_;cases HT0.out;exact⟨rfl,HBZ.out⟩
    |some nv=>
     rw[hnum]at hstep CX;have HD2:=zH hstep.symm;clear hstep hy hc0 hnum;go_wp2_with (first
      |(go_at_call 23;(with_reducible refine(CX.out _).mono ?_);rintro e w9 ⟨rfl,hb9⟩;have HB9:=zH (HB.out.trans (hb9.mono HB.out.size));have HO9:=zH (zi HO.out hb9))
      |(at_builtin;go_must (refine yr rfl (.tmp 85) (.tmp 87) 62 rfl w5.heap.size 3 _ 1 8 Tryz.underlying62 yQ _ acc.length _ (by rfl) HO9.out [.int .i64 (nv:Int)] (by rfl) rfl (by intro u hu;simp at hu;subst hu;rfl) (by unfold maxLen;omega) (by omega) HB9.out.size ?_);intro v6 w6 hown6 hgr6 hb6;have HO6:Hid (w6.ownsRow w5.heap.size 3 1 v6 (acc++[nv]).length ((acc++[nv]).map qU)):=zH (by rw[List.length_append,List.map_append];exact hown6);have HB6:=zH (HB9.out.trans hb6);clear hown6 hgr6 hb6)
      |fail)
     go_roundw
     case rel=>exact⟨j+1,acc++[nv],by go_num,by omega,by rw[List.length_append,List.length_singleton];omega,HD2,HO6,HB6⟩
     case measure=>simp[intOf];omega
  . have em:(j:Int)=4:=by omega
    rw[em];obtain rfl:j=4:=by omega
    clear em;obtain⟨a,b,c,d,rfl⟩:=zgc hacc;have hend:=yB (f:=[110,110,110,110]) (ws:=ws) (j:=4) (by rw[HWL.out];exact Nat.le_refl _) [a,b,c,d] ByteArray.empty;rw[HD.out]at hend;subst hend;have hbd:=(zu hF).2.1;have ha:=hbd a (by simp);have hb:=hbd b (by simp);have hc:=hbd c (by simp);have hd:=hbd d (by simp);clear hbd;obtain⟨g,cx,rfl,hg0,hg1,hcell⟩:=zp (n:=4) rfl (by omega) HO.out;have c0:=hcell 0 a rfl;have c1:=hcell 1 b rfl;have c2:=hcell 2 c rfl;have c3:=hcell 3 d rfl;clear hcell HO HD HFD hacc hj hjl;have BX4:=zH (BX5.out.below HB.out);obtain⟨E,hEE⟩:∃E,qp (a:Int) b c d=E:=⟨_,rfl⟩
    have hEs:=zaF (a:Int) b c d;have CQ:=zH fun W=>XS (a:Int) b c d W
    have CSh:=zH fun W=>YD a b c d W
    have hZZ:(Z1,Z2)=zeu (shC n k wr0 r D mw (.slice ao la ca)) (some ([a,b,c,d],ByteArray.empty)):=HZ.out;unfold zeu at hZZ;simp only[List.getD_cons_zero,List.getD_cons_succ]at hZZ;rw[hEE]at hZZ hEs CQ;have HZZ:=zH hZZ;clear hEE HZ hF hZZ;go_wp2_with fail
    go_region_held3 (fun w'=>w'.cell? ⟨g,0,none⟩=some (.int .i64 (a:Int))/\w'.cell? ⟨g,1,none⟩=some (.int .i64 (b:Int))/\w'.cell? ⟨g,2,none⟩=some (.int .i64 (c:Int))/\w'.cell? ⟨g,3,none⟩=some (.int .i64 (d:Int))) (first|go_keep) (first|fail)
    obtain⟨W6,hW6⟩:∃W6,(wo.alloc (.cells #[.int .i64 (a:Int),.int .i64 (b:Int),.int .i64 (c:Int),.int .i64 (d:Int)] 33)).drew=W6:=⟨_,rfl⟩
    rw[hW6];have hb6:Below wo.heap.size wo W6:=by rw[<-hW6];exact zb (zc _ _)
    have hq6:W6.heap[wo.heap.size]?=some (.cells #[.int .i64 (a:Int),.int .i64 (b:Int),.int .i64 (c:Int),.int .i64 (d:Int)] 33 (0,0)):=by rw[<-hW6];exact heap_alloc_new wo _
    have hs6:wo.heap.size<W6.heap.size:=by rw[<-hW6];simp
    have BX6:=zH (BX4.out.below hb6);have HQ6:=zH hq6;have HS6:=zH hs6;obtain⟨y0,y1,y2,y3⟩:=zc4 hq6;clear hb6 hq6 hs6 hW6 c0 c1 c2 c3 BX4;unfold qV at CQ CSh;go_wp2_with fail
    (with_reducible refine(CQ.out _).mono ?_);rintro e w7 ⟨rfl,hb7⟩
    have BX:=zH (BX6.out.below hb7);by_cases hE:E=0
    . subst hE;have hq7:w7.heap[wo.heap.size]?=some (.cells #[.int .i64 (a:Int),.int .i64 (b:Int),.int .i64 (c:Int),.int .i64 (d:Int)] 33 (0,0)):=(hb7.block _ HS6.out).trans HQ6.out;obtain⟨y0,y1,y2,y3⟩:=zc4 hq7;have hz:=HZZ.out;rw[if_neg (by simp)]at hz;have HZ3:=zH hz;clear hz HZZ hb7 hq7 CQ BX6 BX5;go_wp2_with fail
      (with_reducible refine(CSh.out _).mono ?_);rintro e w8 ⟨rfl,hb8⟩
      have BY:=zH (BX.out.below hb8);clear hb8 CSh BX;obtain⟨x0,x1,x2,x3,x4,x5,x6⟩:=BY.out.old;obtain⟨⟨z0,z1,z2,z3,z4,z5,z6⟩,f0,f1,f2,f3,f4,f5,f6⟩:=BY.out.res;obtain⟨q0,q1,q2,q3,q4,q5,q6⟩:=zv (BY.out.put7 (.int .i64 (a:Int)) (.int .i64 (b:Int)) (.int .i64 (c:Int)) (.int .i64 (d:Int)) (.int .u16 0) (.int .i64 0) (.slice none 0 0)).r;have hbz:=(BY.out.put7 (.int .i64 (a:Int)) (.int .i64 (b:Int)) (.int .i64 (c:Int)) (.int .i64 (d:Int)) (.int .u16 0) (.int .i64 0) (.slice none 0 0)).b;unfold put7 at q0 q1 q2 q3 q4 q5 q6 hbz;have HBZ:=zH hbz;clear hbz;go_wp2_with fail
      refine bodyPost_ret (v:=.tuple #[.agg (shC a b c d 0 0 (.slice none 0 0)),.string dkOK]) (by simp[results,Tryz.results11,go_sem,q0,q1,q2,q3,q4,q5,q6];try rfl) rfl ?_;cases HZ3.out;exact⟨rfl,HBZ.out⟩
    . have tE:(E !=0)=true:=by simp;exact hE
      have hz:=HZZ.out;rw[if_pos hE]at hz;have HZ3:=zH hz;have CRE:=zH fun X (hX:Below w.heap.size w X)=>zx E (by omega) (by omega) X (hW.below hX)
      unfold zq at CRE;clear hz HZZ hb7 CQ BX6 BX5;obtain⟨hbxx, -⟩:Bx w _ (shC n k wr0 r D mw (.slice ao la ca)) shZ/\True:=⟨BX.out,trivial⟩
      obtain⟨x0,x1,x2,x3,x4,x5,x6⟩:=hbxx.old;obtain⟨⟨z0,z1,z2,z3,z4,z5,z6⟩,f0,f1,f2,f3,f4,f5,f6⟩:=hbxx.res;clear hbxx;go_wp2_with fail
      go_region_held3 (fun w'=>w'.cell? ⟨w.heap.size,0,none⟩=some (.int .i64 (n:Int))/\w'.cell? ⟨w.heap.size,1,none⟩=some (.int .i64 (k:Int))/\w'.cell? ⟨w.heap.size,2,none⟩=some (.int .i64 (wr0:Int))/\w'.cell? ⟨w.heap.size,3,none⟩=some (.int .i64 (r:Int))/\w'.cell? ⟨w.heap.size,4,none⟩=some (.int .u16 (D:Int))/\w'.cell? ⟨w.heap.size,5,none⟩=some (.int .i64 (mw:Int))/\w'.cell? ⟨w.heap.size,6,none⟩=some (.slice ao la ca)) (first|(with_reducible exact HKK.out)|(with_reducible exact(BX.out.put7 _ _ _ _ _ _ _).old)|(with_reducible exact(BZ.out.put7 _ _ _ _ _ _ _).old)|go_keep)
       (first|(go_at_call 22;(with_reducible refine(CRE.out _ (by first|exact BX.out.b|exact BX.out.drew.b|exact(BX.out.put7 _ _ _ _ _ _ _).b|exact(BX.out.put7 _ _ _ _ _ _ _).drew.b)).mono ?_);rintro e w3 ⟨rfl,hb3⟩;(first|(have BZ:=zH (BX.out.below hb3))|(have BZ:=zH (BX.out.drew.below hb3))|(have BZ:=zH ((BX.out.put7 _ _ _ _ _ _ _).below hb3))|(have BZ:=zH ((BX.out.put7 _ _ _ _ _ _ _).drew.below hb3)));have HKK:=zH BZ.out.old;(first|(obtain⟨⟨zz0,zz1,zz2,zz3,zz4,zz5,zz6⟩,ff0,ff1,ff2,ff3,ff4,ff5,ff6⟩:=BZ.out.res)|skip)))
      obtain⟨q0,q1,q2,q3,q4,q5,q6⟩:=zv (BZ.out.put7 (.int .i64 (n:Int)) (.int .i64 (k:Int)) (.int .i64 (wr0:Int)) (.int .i64 (r:Int)) (.int .u16 (D:Int)) (.int .i64 (mw:Int)) (.slice ao la ca)).r;have hbz:=(BZ.out.put7 (.int .i64 (n:Int)) (.int .i64 (k:Int)) (.int .i64 (wr0:Int)) (.int .i64 (r:Int)) (.int .u16 (D:Int)) (.int .i64 (mw:Int)) (.slice ao la ca)).b;unfold put7 at q0 q1 q2 q3 q4 q5 q6 hbz;have HBZ:=zH hbz;clear hbz;go_wp2_with fail
      refine bodyPost_ret (v:=.tuple #[.agg (shC n k wr0 r D mw (.slice ao la ca)),.string (zt E)]) (by simp[results,Tryz.results11,go_sem,q0,q1,q2,q3,q4,q5,q6];try rfl) rfl ?_;cases HZ3.out;exact⟨rfl,HBZ.out⟩
theorem Bx.oldF{w W:World}{sh rs:Array Value}(h:Bx w W sh rs):
 W.frozen? ⟨w.heap.size,0,none⟩=false/\W.frozen? ⟨w.heap.size,1,none⟩=false/\W.frozen? ⟨w.heap.size,2,none⟩=false/\W.frozen? ⟨w.heap.size,3,none⟩=false/\
 W.frozen? ⟨w.heap.size,4,none⟩=false/\W.frozen? ⟨w.heap.size,5,none⟩=false/\W.frozen? ⟨w.heap.size,6,none⟩=false:=
 ⟨zm h.s 0,zm h.s 1,zm h.s 2,zm h.s 3,zm h.s 4,zm h.s 5,zm h.s 6⟩
theorem Bx.putS{w W:World}{x0 x1 x2 x3 x4 x5 x6:Value}{rs:Array Value}(h:Bx w W #[x0,x1,x2,x3,x4,x5,x6] rs)(a0 a1 a2 a3 a4 a5 a6:Value):Bx w (Go.Proofs.YtmgfbmkfomebcaaGreatDoor.put7 W w.heap.size a0 a1 a2 a3 a4 a5 a6) #[a0,a1,a2,a3,a4,a5,a6] rs:=by
 have hne:w.heap.size≠w.heap.size+1:=by omega
 refine⟨Zd h.s _ _ _ _ _ _ _,?_,zj h.b (Nat.le_refl _) _ _ _ _ _ _ _,by have:=h.n;simp[Go.Proofs.YtmgfbmkfomebcaaGreatDoor.put7];omega⟩;rw[zf _ hne,zf _ hne,zf _ hne,zf _ hne,zf _ hne,zf _ hne,zf _ hne];exact h.r
theorem yj(W:World)(A:Nat)(a0 a1 a2 a3 a4 a5 a6:Value):(put7 W A a0 a1 a2 a3 a4 a5 a6).heap.size=W.heap.size:=by simp[put7]
theorem qt{W:World}{A B:Nat}(h:A≠B)(a0 a1 a2 a3 a4 a5 a6:Value):(put7 W A a0 a1 a2 a3 a4 a5 a6).heap[B]?=W.heap[B]? :=by
 rw[zf _ h,zf _ h,zf _ h,zf _ h,zf _ h,zf _ h,zf _ h]
theorem Qf{W:World}{A:Nat}{ao:Option Addr}{l:List Value}(h:Reads W ao l)(hne:∀a,ao=some a->a.block≠A)(a0 a1 a2 a3 a4 a5 a6:Value):Reads (put7 W A a0 a1 a2 a3 a4 a5 a6) ao l:=
 yU (yU (yU (yU (yU (yU (yU h hne) hne) hne) hne) hne) hne) hne
def Zq(R:DS×ByteArray)(ao:Option Addr)(w:World)(e:Ending)(w':World):Prop:=
 ∃(D':Nat) (All':List It) (ao':Option Addr) (cap':Nat),e=.returned (.tuple #[.agg (shC R.1.n R.1.k R.1.wr R.1.r D' R.1.st.wr (.slice ao' All'.length cap')),.string R.2])/\Shl R.1.n D' All' R.1.st/\Reads w' ao' (ze All')/\(ao'=none->All'.length=0/\cap'=0)/\
  (ao'=ao\/∀a,ao'=some a->w.heap.size<=a.block/\a.block<w'.heap.size)/\Below w.heap.size w w'
structure DeedK (n k wr r:Nat) (ao:Option Addr) (st:St) (D' mw' la' ca':Nat) (ao':Option Addr) (w W:World):Prop where
 bx:Bx w W (shC n k wr r D' mw' (.slice ao' la' ca')) shZ
 ls:∃All',All'.length=la'/\st.wr=mw'/\Shl n D' All' st/\Reads W ao' (ze All')/\(ao'=none->All'.length=0/\ca'=0)
 nw:ao'=ao\/∀a,ao'=some a->w.heap.size+2<=a.block/\a.block<W.heap.size
theorem DeedK.below{n k wr r:Nat}{ao:Option Addr}{st:St}{D' mw' la' ca':Nat}{ao':Option Addr}{w W W':World}(h:DeedK n k wr r ao st D' mw' la' ca' ao' w W)(hb:Below W.heap.size W W'):DeedK n k wr r ao st D' mw' la' ca' ao' w W':=by
 obtain⟨All',h1,h2,h3,h4,h5⟩:=h.ls;exact⟨h.bx.below hb,⟨All',h1,h2,h3,h4.below hb,h5⟩,h.nw.imp id fun hh a ha=>⟨(hh a ha).1,Nat.lt_of_lt_of_le (hh a ha).2 hb.size⟩⟩
theorem DeedK.fin{n k wr r:Nat}{ao:Option Addr}{st:St}{D' mw' la' ca':Nat}{ao':Option Addr}{w W:World}(h:DeedK n k wr r ao st D' mw' la' ca' ao' w W)(hao:∀a,ao=some a->a.block<w.heap.size)(T:ByteArray):
 Zq (⟨n,k,wr,r,st⟩,T) ao w (.returned (.tuple #[.agg (shC n k wr r D' mw' (.slice ao' la' ca')),.string T])) (put7 W (w.heap.size+1) (.int .i64 (n:Int)) (.int .i64 (k:Int)) (.int .i64 (wr:Int)) (.int .i64 (r:Int)) (.int .u16 (D':Int)) (.int .i64 (mw':Int)) (.slice ao' la' ca')):=by
 obtain⟨All',rfl,rfl,h3,h4,h5⟩:=h.ls;refine⟨D',All',ao',ca',rfl,h3,Qf h4 ?_ _ _ _ _ _ _ _,h5,?_,(h.bx.put7 _ _ _ _ _ _ _).b⟩
 . intro a ha e;rcases h.nw with hh|hh
   . have:=hao a (hh ▸ ha);omega
   . have:=(hh a ha).1;omega
 . refine h.nw.imp id fun hh a ha=>⟨by have:=(hh a ha).1;omega,by rw[yj];exact(hh a ha).2⟩
theorem qK{n k wr r:Nat}{ao:Option Addr}{sh:Array Value}{x0 x1 x2 x3 x4 x5 x6:Value}(hsh:sh=#[x0,x1,x2,x3,x4,x5,x6]){R:St×Tl×Nat}{w W6 w7:World}{e:Ending}(hao:∀a,ao=some a->a.block<w.heap.size)(bx:Bx w W6 sh shZ)(h:yo n k wr r ao R W6 e w7):
 ∃(D' mw' la' ca':Nat) (ao':Option Addr),e=.returned (.tuple #[.agg (shC n k wr r D' mw' (.slice ao' la' ca')),tellV R.2.1,.int .i64 (R.2.2:Nat)])/\Below W6.heap.size W6 w7/\
  ∀told:Obj,DeedK n k wr r ao R.1 D' mw' la' ca' ao' w ((put7 w7 w.heap.size (.int .i64 (n:Int)) (.int .i64 (k:Int)) (.int .i64 (wr:Int)) (.int .i64 (r:Int)) (.int .u16 (D':Int)) (.int .i64 (mw':Int)) (.slice ao' la' ca')).alloc told):=by
 obtain⟨D',All',ao',ca',he,h3,h4,h5,h6,hb⟩:=h;subst hsh;have hne:∀a,ao'=some a->a.block≠w.heap.size:=by
  intro a ha e;have:=bx.n;rcases h6 with hh|hh
  . have:=hao a (hh ▸ ha);omega
  . have:=(hh a ha).1;omega
 refine⟨D',R.1.wr,All'.length,ca',ao',he,hb,fun told=>⟨((bx.below hb).putS _ _ _ _ _ _ _).below (zc _ _),⟨All',rfl,rfl,h3,(Qf h4 hne _ _ _ _ _ _ _).below (zc _ _),h5⟩,?_⟩⟩;refine h6.imp id fun hh a ha=>⟨Nat.le_trans bx.n (hh a ha).1,?_⟩
 rw[World.size_alloc,yj];exact Nat.lt_succ_of_lt (hh a ha).2
theorem ka(m m':Cm)(h:m.kind≠0/\m'.kind=0):(m.name.toList==m'.name.toList)=false:=by
 have h2:(m.name==m'.name)=false:=by
  cases m<;>cases m'<;>first|exact absurd h (by decide)|decide
 rw[beq_toListBytes]at h2;exact h2
theorem y8{c:ByteArray}(h:∀m:Cm,m.kind=0->(c.toList==m.name.toList)=false):NotComp c:=by
 have e:∀m:Cm,m.name.toList=m.name.data.toList:=fun m=>ByteArray.toList_eq _
 refine⟨?_,?_,?_,?_⟩
 . have:=h .gcd rfl;rw[e]at this;exact this
 . have:=h .factor rfl;rw[e]at this;exact this
 . have:=h .root rfl;rw[e]at this;exact this
 . have:=h .code rfl;rw[e]at this;exact this
theorem JM{a b c d e f g h:Prop}(x:a/\b/\c/\d/\e/\f/\g)(y:h):a/\b/\c/\d/\e/\f/\g/\h:=⟨x.1,x.2.1,x.2.2.1,x.2.2.2.1,x.2.2.2.2.1,x.2.2.2.2.2.1,x.2.2.2.2.2.2,y⟩
end Go.Proofs.YtmgfbmkfomebcaaGreatDoor
