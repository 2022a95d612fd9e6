/- wholeref.AnswerOf at lose. (Printed by wip/tools/gen_desk6.py.) -/
import Derived.Test.YtmgfbmkfomebcaaGreatDoorDkM44
set_option linter.unusedVariables false
set_option linter.unusedSimpArgs false
set_option maxRecDepth 100000
set_option maxHeartbeats 8000000
namespace Go.Proofs.YtmgfbmkfomebcaaGreatDoor
open Go.RowKit
theorem zdr{n k wr0 r D mw la ca:Nat}{ao:Option Addr}{All:List It}{st:St}(hla:All.length=la)(hmw:st.wr=mw)(hk1:1<=k)(hkn:k<=n)(hn:n<=10)(hSh:Shl n D All st){w:World}(hRd:Reads w ao (ze All))(hnone:ao=none->All.length=0/\ca=0)(hao:∀a,ao=some a->a.block<w.heap.size)(hW:DkW w)(x:ByteArray)(hx:x.size<=4294967296)(ws:List ByteArray)(hws:zL x=Cm.lose.name::ws)(hlen:ws.length=Cm.lose.form.length)(R:Option (List Nat×ByteArray))(hF:zB Cm.lose.form ws=R)(Z:DS×ByteArray)(HZ:Hid (Z=zK ⟨n,k,wr0,r,st⟩ ws Cm.lose)):
 Calls Tryz.prog 11 #[.agg (shC n k wr0 r D mw (.slice ao la ca)),.string x] w (Zq Z ao w):=by
 have hz:∀y∈Cm.lose.name::ws,y.size<=9223372036854775807:=fun y hy=>by have:=zN (s:=x) (x:=y) (by rw[hws];exact hy);omega
 have hmf:∀(fn:Fn) (first cap:Array Value) (w:World),(Instr.makeFunc fn first cap).run Tryz.prog w=.ok (.func fn first cap) w:=fun _ _ _ _=>rfl
 have bx0:=Bx.first w (shC n k wr0 r D mw (.slice ao la ca));obtain⟨W1,hW1⟩:∃W1,(w.alloc (.cells (shC n k wr0 r D mw (.slice ao la ca)) 41)).alloc (.cells shZ 41)=W1:=⟨_,rfl⟩
 rw[hW1]at bx0;have CF:=zH (yp x W1 hx);unfold zM at CF;rw[hws]at CF;have CR:=zH fun X (hX:Below w.heap.size w X)=>zx 12 (by omega) (by omega) X (hW.below hX)
 unfold zq at CR;have BX0:=zH bx0;clear bx0;go_enter Tryz.func11,Tryz.ntmps11
 go_wp2_with fail
 (with_reducible refine CF.out.mono ?_);rintro e w2 ⟨A,rfl,hA,hown,hb2⟩
 obtain⟨c0,hIn,hA1,hA2⟩:=yA hz hown;have bx2:=BX0.out.below hb2;obtain⟨nn,hn⟩:∃nn,ws.length=nn:=⟨_,rfl⟩
 rw[hn]at hIn;simp only[List.length_cons,hn];have hn0:nn<=9223372036854775807:=hIn.2.1;have hsl:=yn A nn;have hne:w.heap.size≠w.heap.size+1:=by omega
 have d0:¬((nn:Int)+1=0):=by omega
 have BX2:=zH bx2;have HIN:=zH hIn;have HNN:=zH hn;clear bx2 hb2 hA CF hW1 hn hIn hown hz;go_wp2_with fail
 go_quiet (fail)
 obtain⟨w4,hw4⟩:∃w4,w2.drewN nq=w4:=⟨_,rfl⟩
 rw[hw4];have hb4:Below w2.heap.size w2 w4:=by rw[<-hw4];exact zg (Below.refl _ _) nq
 have BX4:=zH (BX2.out.below hb4);have HI4:=zH (HIN.out.below hb4);have hmm:=@run_makeMap Tryz.prog;obtain⟨v1,v2,v3,v4,v5,v6,v7,v8,v9,v10,v11,v12,Wm,r1,r2,r3,r4,r5,r6,r7,r8,r9,r10,r11,r12,r13,⟨hl1,hl2⟩,hbm⟩:=yW Tryz.underlying61 Tryz.underlying9 Tryz.zeroValue3 w4;have BX:=zH (BX4.out.below hbm);have HI:=zH (HI4.out.below hbm);clear hw4 hb4 hbm BX4 HI4 HIN BX2 BX0 c0 hsl hA1 hA2
 skip
 have hl:=hl1 .lose;unfold Cm.many Cm.name at hl;unfold Cm.name;have enn:nn=1:=by have:=HNN.out;rw[hlen]at this;exact this.symm
 subst enn;have ht1:yS 1=1:=rfl;rw[ht1]at HI ⊢;clear hl1 hl2 ht1;have hFD:yd [110] ws [] ByteArray.empty=R:=by
  rw[<-hF];unfold zB;rw[if_neg (fun h=>h hlen)];rfl
 have HFD:=zH hFD;have HWL:Hid (ws.length=1):=zH hlen;clear hFD hlen;go_wp2_with fail
 clear r1 r2 r3 r4 r5 r6 r7 r8 r9 r10 r11 r12 r13 hmm hl;obtain⟨w5,rfl⟩:∃w5,w5=Wm:=⟨_,rfl⟩
 have BX5:=BX;have HI5:=HI;clear BX HI;go_loopw [12,72] (fun vx vj wr=>∃(j:Nat) (acc:List Nat),vj=.int .i64 j/\j<=1/\acc.length=j/\Hid (yd (([110]:List UInt8).drop j) (ws.drop j) acc ByteArray.empty=R)/\Hid (wr.ownsRow w5.heap.size 3 1 vx acc.length (acc.map qU))/\Hid (Below w5.heap.size w5 wr)) (fun _ vj _=>1-(intOf vj).toNat)
 case atStart=>exact⟨0,[],rfl,by omega,rfl,HFD,zH (World.ownsRow_nil _ _ _ _),zH (Below.refl _ _)⟩
 case round=>
  obtain⟨j,acc,rfl,hj,hacc,HD,HO,HB⟩:=hrel;obtain⟨wo,rfl⟩:∃wo,wo=wr:=⟨_,rfl⟩
  by_cases hjl:j<1
  . have hjw:j<ws.length:=by rw[HWL.out];omega
    have hjf:j<([110]:List UInt8).length:=by show j<1;omega
    have hstep:=ye hjf hjw acc ByteArray.empty;rw[if_neg (vL (K:=1) rfl hjl hjf),HD.out]at hstep;obtain⟨y,hy⟩:∃y,ws[j]=y:=⟨_,rfl⟩
    have hym:y∈ws:=by rw[<-hy];exact List.getElem_mem _
    obtain⟨bq,oq,hbo,hc0⟩:=HI5.out.2.2.2 j (.string y) (by rw[List.getElem?_map,List.getElem?_eq_getElem hjw,hy];rfl);cases hbo;have hc:=(HB.out.cell (p:=⟨A,1+j,none⟩) (World.block_lt_of_cell? _ _ hc0)).trans hc0;have hys:=HI5.out.2.2.1 y hym;rw[hy]at hstep;have CX:=zH fun W=>yE y W hys
    unfold qk at CX;have k2:(j:Int)<1:=by omega
    cases hnum:y7 y with
    |none=>
     rw[hnum]at hstep CX;have HT0:Hid (Z=(⟨n,k,wr0,r,st⟩,zt 12)):=zH (by rw[HZ.out];unfold zK;rw[hF,hstep]);clear hstep hy hc0 hnum;go_wp2_with (go_at_call 23;(with_reducible refine(CX.out _).mono ?_);rintro e w9 ⟨rfl,hb9⟩)
     have BX:=zH ((BX5.out.below HB.out).below hb9);clear hb9 CX hc HD HO HB HI5 BX5 HFD HWL hym hys hjw hjf hacc hjl hj k2 HNN d0 hn0 hmf;obtain⟨hbxx, -⟩:Bx w _ (shC n k wr0 r D mw (.slice ao la ca)) shZ/\True:=⟨BX.out,trivial⟩
     obtain⟨x0,x1,x2,x3,x4,x5,x6⟩:=hbxx.old;obtain⟨⟨z0,z1,z2,z3,z4,z5,z6⟩,f0,f1,f2,f3,f4,f5,f6⟩:=hbxx.res;clear hbxx;go_wp2_with fail
     go_region_held3 (fun w'=>w'.cell? ⟨w.heap.size,0,none⟩=some (.int .i64 (n:Int))/\w'.cell? ⟨w.heap.size,1,none⟩=some (.int .i64 (k:Int))/\w'.cell? ⟨w.heap.size,2,none⟩=some (.int .i64 (wr0:Int))/\w'.cell? ⟨w.heap.size,3,none⟩=some (.int .i64 (r:Int))/\w'.cell? ⟨w.heap.size,4,none⟩=some (.int .u16 (D:Int))/\w'.cell? ⟨w.heap.size,5,none⟩=some (.int .i64 (mw:Int))/\w'.cell? ⟨w.heap.size,6,none⟩=some (.slice ao la ca)) (first|(with_reducible exact HKK.out)|(with_reducible exact(BX.out.put7 _ _ _ _ _ _ _).old)|(with_reducible exact(BZ.out.put7 _ _ _ _ _ _ _).old)|go_keep)
      (first|(go_at_call 22;(with_reducible refine(CR.out _ (by first|exact BX.out.b|exact BX.out.drew.b|exact(BX.out.put7 _ _ _ _ _ _ _).b|exact(BX.out.put7 _ _ _ _ _ _ _).drew.b)).mono ?_);rintro e w3 ⟨rfl,hb3⟩;(first|(have BZ:=zH (BX.out.below hb3))|(have BZ:=zH (BX.out.drew.below hb3))|(have BZ:=zH ((BX.out.put7 _ _ _ _ _ _ _).below hb3))|(have BZ:=zH ((BX.out.put7 _ _ _ _ _ _ _).drew.below hb3)));have HKK:=zH BZ.out.old;(first|(obtain⟨⟨zz0,zz1,zz2,zz3,zz4,zz5,zz6⟩,ff0,ff1,ff2,ff3,ff4,ff5,ff6⟩:=BZ.out.res)|skip)))
     obtain⟨q0,q1,q2,q3,q4,q5,q6⟩:=zv (BZ.out.put7 (.int .i64 (n:Int)) (.int .i64 (k:Int)) (.int .i64 (wr0:Int)) (.int .i64 (r:Int)) (.int .u16 (D:Int)) (.int .i64 (mw:Int)) (.slice ao la ca)).r;have hbz:=(BZ.out.put7 (.int .i64 (n:Int)) (.int .i64 (k:Int)) (.int .i64 (wr0:Int)) (.int .i64 (r:Int)) (.int .u16 (D:Int)) (.int .i64 (mw:Int)) (.slice ao la ca)).b;unfold put7 at q0 q1 q2 q3 q4 q5 q6 hbz;have HBZ:=zH hbz;clear hbz;go_wp2_with fail
     refine bodyPost_ret (v:=.tuple #[.agg (shC n k wr0 r D mw (.slice ao la ca)),.string (zt 12)]) (by simp[results,Tryz.results11,go_sem,q0,q1,q2,q3,q4,q5,q6];try rfl) rfl ?_;rw[HT0.out];exact⟨D,All,ao,ca,by rw[hla,hmw],hSh,hRd.below HBZ.out,hnone,.inl rfl,HBZ.out⟩
    |some nv=>
     rw[hnum]at hstep CX;have HD2:=zH hstep.symm;clear hstep hy hc0 hnum;go_wp2_with (first
      |(go_at_call 23;(with_reducible refine(CX.out _).mono ?_);rintro e w9 ⟨rfl,hb9⟩;have HB9:=zH (HB.out.trans (hb9.mono HB.out.size));have HO9:=zH (zi HO.out hb9))
      |(at_builtin;go_must (refine yr rfl (.tmp 85) (.tmp 87) 62 rfl w5.heap.size 3 _ 1 8 Tryz.underlying62 yQ _ acc.length _ (by rfl) HO9.out [.int .i64 (nv:Int)] (by rfl) rfl (by intro u hu;simp at hu;subst hu;rfl) (by unfold maxLen;omega) (by omega) HB9.out.size ?_);intro v6 w6 hown6 hgr6 hb6;have HO6:Hid (w6.ownsRow w5.heap.size 3 1 v6 (acc++[nv]).length ((acc++[nv]).map qU)):=zH (by rw[List.length_append,List.map_append];exact hown6);have HB6:=zH (HB9.out.trans hb6);clear hown6 hgr6 hb6)
      |fail)
     go_roundw
     case rel=>exact⟨j+1,acc++[nv],by go_num,by omega,by rw[List.length_append,List.length_singleton];omega,HD2,HO6,HB6⟩
     case measure=>simp[intOf];omega
  . have em:(j:Int)=1:=by omega
    rw[em];obtain rfl:j=1:=by omega
    clear em;obtain⟨a,rfl⟩:=JC hacc;have hend:=yB (f:=[110]) (ws:=ws) (j:=1) (by rw[HWL.out];exact Nat.le_refl _) [a] ByteArray.empty;rw[HD.out]at hend;subst hend;have hbd:=(zu hF).2.1;have ha:=hbd a (by simp);clear hbd;obtain⟨g,cx,rfl,hg0,hg1,hcell⟩:=zp (n:=1) rfl (by omega) HO.out;have c0:=hcell 0 a rfl;clear hcell HO HD HFD hacc hj hjl;have BX4:=zH (BX5.out.below HB.out);have hty:(⟨#[]⟩:ByteArray).size<=9223372036854775807:=Nat.zero_le _;have CD0:∀W,Below w.heap.size w W->Calls Tryz.prog 26 #[.agg (shC n k wr0 r D mw (.slice ao la ca)),deedV 6 0 (a:Int) ⟨#[]⟩] W (yo n k wr0 r ao (doF n k wr0 r st 6 0 (a:Int) ⟨#[]⟩) W):=fun W hb=>by
     have:=vY 6 0 (a:Int) ⟨#[]⟩ hty hk1 hkn hn hSh ao ca W (r:=r) (wr0:=wr0) (hRd.below hb) hnone;rw[hla,hmw]at this;exact this
    have hZZ:Z=yk ⟨n,k,wr0,r,st⟩ 6 0 a ByteArray.empty:=by rw[HZ.out];unfold zK;rw[hF];rfl
    have hT:=yJ (n:=n) (k:=k) (wr:=wr0) (r:=r) hSh.ok hk1 6 0 (a:Int) ⟨#[]⟩;obtain⟨RR,hRR⟩:∃RR,doF n k wr0 r st 6 0 (a:Int) ⟨#[]⟩=RR:=⟨_,rfl⟩
    obtain⟨st',⟨tx,at',mn⟩,E⟩:=RR;rw[hRR]at CD0 hT;have hZ2:Z=(⟨n,k,wr0,r,st'⟩,yq 6 ⟨tx,at',mn⟩ E):=by
     have hR':doF n k wr0 r st ((6:Nat):Int) ((0:Nat):Int) ((a:Nat):Int) ByteArray.empty=(st',⟨tx,at',mn⟩,E):=hRR;rw[hZZ];unfold yk;simp only;rw[hR']
    have hTe:=hT.e;have hTa:=hT.a;have hTm:=hT.m;have hTx:=hT.x;simp only at hTe hTa hTm hTx;have CD:=zH CD0;have HZ2:=zH hZ2;have nk:=fun m' hm'=>ka .lose m' ⟨by decide,hm'⟩
    have CRN:=zH fun v W=>vh Cm.lose.name v W (y8 nk)
    unfold Cm.name at CRN;have hmm:=@run_makeMap Tryz.prog;obtain⟨u1,u2,u3,u4,u5,u6,u7,Wk,k1,k2,k3,k4,k5,k6,k7,k8,hkk,hbk⟩:=kb Tryz.underlying61 Tryz.underlying9 Tryz.zeroValue3 wo;have hk:=hkk .lose (by decide);unfold Cm.name Cm.kind at hk;have BXk:=zH (BX4.out.below hbk);have e0:=(hbk.cell (p:=⟨g,0,none⟩) hg1).trans c0;have hgk:g<Wk.heap.size:=Nat.lt_of_lt_of_le hg1 hbk.size;clear hZ2 hZZ hRR hT HZ hF CD0 hkk hbk BX4 hty hSh hRd hnone BX5 HI5
    go_upto_region 40 with(go_at_call 25;(with_reducible refine(CRN.out _ _).mono ?_);rintro e w9 ⟨rfl,rfl⟩)
    clear k1 k2 k3 k4 k5 k6 k7 k8 hmm hk CRN;obtain⟨W7,hW7⟩:∃W7,(Wk.alloc (.cells #[.int .i64 6,.int .i64 0,.int .i64 (a:Int),.string ⟨#[]⟩] 66))=W7:=⟨_,rfl⟩
    rw[hW7];have hb7:Below Wk.heap.size Wk W7:=by rw[<-hW7];exact zc _ _
    have hd7:W7.heap[Wk.heap.size]?=some (.cells #[.int .i64 6,.int .i64 0,.int .i64 (a:Int),.string ⟨#[]⟩] 66 (0,0)):=by rw[<-hW7];exact heap_alloc_new Wk _
    have hs7:Wk.heap.size<W7.heap.size:=by rw[<-hW7];simp
    have hbx7:=BXk.out.below hb7;obtain⟨x0,x1,x2,x3,x4,x5,x6⟩:=hbx7.old;obtain⟨d0,d1,d2,d3⟩:=zc4 hd7;have BX7:=zH hbx7;have HD7:=zH hd7;have hnS:w.heap.size≠Wk.heap.size:=by have:=BXk.out.n;omega
    have HNS:=zH hnS;clear hbx7 hb7 hd7 hW7 BXk e0 hgk;go_wp2_with fail
    (with_reducible refine(CD.out _ BX7.out.b).mono ?_);rintro e w8 hpost
    obtain⟨D',mw',la',ca',ao',rfl,hb8,hK⟩:=qK rfl hao BX7.out hpost;have bx8:=BX7.out.below hb8;obtain⟨x0,x1,x2,x3,x4,x5,x6⟩:=bx8.old;obtain⟨f0,f1,f2,f3,f4,f5,f6⟩:=bx8.oldF;have hlt8:w.heap.size<w8.heap.size:=by have:=bx8.n;omega
    have hneT0:w8.heap.size≠w.heap.size+1:=by have:=bx8.n;omega
    have hltY0:w8.heap.size<((put7 w8 w.heap.size (.int .i64 (n:Int)) (.int .i64 (k:Int)) (.int .i64 (wr0:Int)) (.int .i64 (r:Int)) (.int .u16 (D':Int)) (.int .i64 (mw':Int)) (.slice ao' la' ca')).alloc (.cells #[.string tx,.int .i64 (at':Int),.int .i64 0,.int .i64 (mn:Int)] 70)).heap.size:=by rw[World.size_alloc,yj];exact Nat.lt_succ_self _
    have hK2:=hK (.cells #[.string tx,.int .i64 (at':Int),.int .i64 0,.int .i64 (mn:Int)] 70 (0,0));have hdd:Wk.heap.size<w8.heap.size:=Nat.lt_of_lt_of_le hs7 hb8.size;have hdY:((put7 w8 w.heap.size (.int .i64 (n:Int)) (.int .i64 (k:Int)) (.int .i64 (wr0:Int)) (.int .i64 (r:Int)) (.int .u16 (D':Int)) (.int .i64 (mw':Int)) (.slice ao' la' ca')).alloc (.cells #[.string tx,.int .i64 (at':Int),.int .i64 0,.int .i64 (mn:Int)] 70)).heap[Wk.heap.size]?=some (.cells #[.int .i64 6,.int .i64 0,.int .i64 (a:Int),.string ⟨#[]⟩] 66 (0,0)):=by
     refine za _ _ ?_;rw[qt hnS];exact(hb8.block _ hs7).trans HD7.out
    have htY:((put7 w8 w.heap.size (.int .i64 (n:Int)) (.int .i64 (k:Int)) (.int .i64 (wr0:Int)) (.int .i64 (r:Int)) (.int .u16 (D':Int)) (.int .i64 (mw':Int)) (.slice ao' la' ca')).alloc (.cells #[.string tx,.int .i64 (at':Int),.int .i64 0,.int .i64 (mn:Int)] 70)).heap[w8.heap.size]?=some (.cells #[.string tx,.int .i64 (at':Int),.int .i64 0,.int .i64 (mn:Int)] 70 (0,0)):=zl _ _ _ (yj _ _ _ _ _ _ _ _ _);obtain⟨Y,hY⟩:∃Y,(put7 w8 w.heap.size (.int .i64 (n:Int)) (.int .i64 (k:Int)) (.int .i64 (wr0:Int)) (.int .i64 (r:Int)) (.int .u16 (D':Int)) (.int .i64 (mw':Int)) (.slice ao' la' ca')).alloc (.cells #[.string tx,.int .i64 (at':Int),.int .i64 0,.int .i64 (mn:Int)] 70)=Y:=⟨_,rfl⟩
    rw[hY]at hK2 hdY htY hltY0;have K:=zH hK2;have dk0:=zd hdY 0;obtain⟨t0,t1⟩:=zc2 htY;have t3:=zd htY 3;simp only[List.getElem?_toArray,List.getElem?_cons_zero,List.getElem?_cons_succ]at dk0 t3;unfold put7 at hY;clear hK hK2 hdY htY bx8 hpost BX7 HD7 hb8 CD;by_cases hE:E=0
    . subst hE;have hz:Z=(⟨n,k,wr0,r,st'⟩,dkOK):=HZ2.out;have HZ3:=zH hz;clear hz HZ2;have BX:=zH K.out.bx;obtain⟨x0,x1,x2,x3,x4,x5,x6⟩:=BX.out.old;obtain⟨⟨z0,z1,z2,z3,z4,z5,z6⟩,f0,f1,f2,f3,f4,f5,f6⟩:=BX.out.res;obtain⟨q0,q1,q2,q3,q4,q5,q6⟩:=zv (BX.out.put7 (.int .i64 (n:Int)) (.int .i64 (k:Int)) (.int .i64 (wr0:Int)) (.int .i64 (r:Int)) (.int .u16 (D':Int)) (.int .i64 (mw':Int)) (.slice ao' la' ca')).r;unfold put7 at q0 q1 q2 q3 q4 q5 q6;go_wp2_with fail
      refine bodyPost_ret (v:=.tuple #[.agg (shC n k wr0 r D' mw' (.slice ao' la' ca')),.string dkOK]) (by simp[results,Tryz.results11,go_sem,q0,q1,q2,q3,q4,q5,q6];try rfl) rfl ?_;rw[HZ3.out];exact K.out.fin hao _
    . have tE:((E:Int)!=0)=true:=by simp;exact hE
      have hz:Z=(⟨n,k,wr0,r,st'⟩,zt (E:Int)):=by rw[HZ2.out];unfold yq;rw[if_pos hE]
      have HZ3:=zH hz;have CRE:=zH fun X (hX:Below w.heap.size w X)=>zx (E:Int) (by omega) (by omega) X (hW.below hX)
      unfold zq at CRE;clear hz HZ2 hE;go_wp2_with fail
      have BX:=zH K.out.bx;obtain⟨x0,x1,x2,x3,x4,x5,x6⟩:=BX.out.old;obtain⟨⟨z0,z1,z2,z3,z4,z5,z6⟩,f0,f1,f2,f3,f4,f5,f6⟩:=BX.out.res;go_wp2_with fail
      go_region_held3 (fun w'=>w'.cell? ⟨w.heap.size,0,none⟩=some (.int .i64 (n:Int))/\w'.cell? ⟨w.heap.size,1,none⟩=some (.int .i64 (k:Int))/\w'.cell? ⟨w.heap.size,2,none⟩=some (.int .i64 (wr0:Int))/\w'.cell? ⟨w.heap.size,3,none⟩=some (.int .i64 (r:Int))/\w'.cell? ⟨w.heap.size,4,none⟩=some (.int .u16 (D':Int))/\w'.cell? ⟨w.heap.size,5,none⟩=some (.int .i64 (mw':Int))/\w'.cell? ⟨w.heap.size,6,none⟩=some (.slice ao' la' ca')) (first|(with_reducible exact HKK.out)|(with_reducible exact(BZ.out.put7 _ _ _ _ _ _ _).old)|go_keep)
       (first|(go_at_call 22;(with_reducible refine(CRE.out _ (by first|exact BX.out.b|exact BX.out.drew.b)).mono ?_);rintro e w3 ⟨rfl,hb3⟩;(first|(have BZ:=zH (BX.out.below hb3))|(have BZ:=zH (BX.out.drew.below hb3)));have hbY:Below Y.heap.size Y w3:=(by first|exact hb3|exact(zb (Below.refl _ _)).trans hb3);have HKK:=zH (BZ.out.old);(first|(obtain⟨⟨zz0,zz1,zz2,zz3,zz4,zz5,zz6⟩,ff0,ff1,ff2,ff3,ff4,ff5,ff6⟩:=BZ.out.res)|skip)))
      obtain⟨q0,q1,q2,q3,q4,q5,q6⟩:=zv (BZ.out.put7 (.int .i64 (n:Int)) (.int .i64 (k:Int)) (.int .i64 (wr0:Int)) (.int .i64 (r:Int)) (.int .u16 (D':Int)) (.int .i64 (mw':Int)) (.slice ao' la' ca')).r;unfold put7 at q0 q1 q2 q3 q4 q5 q6;have K3:=zH (K.out.below hbY);clear hbY;go_wp2_with fail
      refine bodyPost_ret (v:=.tuple #[.agg (shC n k wr0 r D' mw' (.slice ao' la' ca')),.string (zt (E:Int))]) (by simp[results,Tryz.results11,go_sem,q0,q1,q2,q3,q4,q5,q6];try rfl) rfl ?_;rw[HZ3.out];exact K3.out.fin hao _
theorem zeJ{n k wr0 r D mw la ca:Nat}{ao:Option Addr}{All:List It}{st:St}(hla:All.length=la)(hmw:st.wr=mw)(hk1:1<=k)(hkn:k<=n)(hn:n<=10)(hSh:Shl n D All st){w:World}(hRd:Reads w ao (ze All))(hnone:ao=none->All.length=0/\ca=0)(hao:∀a,ao=some a->a.block<w.heap.size)(hW:DkW w)(x:ByteArray)(hx:x.size<=4294967296)(ws:List ByteArray)(hws:zL x=Cm.rot.name::ws)(hlen:ws.length=Cm.rot.form.length)(R:Option (List Nat×ByteArray))(hF:zB Cm.rot.form ws=R)(Z:DS×ByteArray)(HZ:Hid (Z=zK ⟨n,k,wr0,r,st⟩ ws Cm.rot)):
 Calls Tryz.prog 11 #[.agg (shC n k wr0 r D mw (.slice ao la ca)),.string x] w (Zq Z ao w):=by
 have hz:∀y∈Cm.rot.name::ws,y.size<=9223372036854775807:=fun y hy=>by have:=zN (s:=x) (x:=y) (by rw[hws];exact hy);omega
 have hmf:∀(fn:Fn) (first cap:Array Value) (w:World),(Instr.makeFunc fn first cap).run Tryz.prog w=.ok (.func fn first cap) w:=fun _ _ _ _=>rfl
 have bx0:=Bx.first w (shC n k wr0 r D mw (.slice ao la ca));obtain⟨W1,hW1⟩:∃W1,(w.alloc (.cells (shC n k wr0 r D mw (.slice ao la ca)) 41)).alloc (.cells shZ 41)=W1:=⟨_,rfl⟩
 rw[hW1]at bx0;have CF:=zH (yp x W1 hx);unfold zM at CF;rw[hws]at CF;have CR:=zH fun X (hX:Below w.heap.size w X)=>zx 12 (by omega) (by omega) X (hW.below hX)
 unfold zq at CR;have BX0:=zH bx0;clear bx0;go_enter Tryz.func11,Tryz.ntmps11
 go_wp2_with fail
 (with_reducible refine CF.out.mono ?_);rintro e w2 ⟨A,rfl,hA,hown,hb2⟩
 obtain⟨c0,hIn,hA1,hA2⟩:=yA hz hown;have bx2:=BX0.out.below hb2;obtain⟨nn,hn⟩:∃nn,ws.length=nn:=⟨_,rfl⟩
 rw[hn]at hIn;simp only[List.length_cons,hn];have hn0:nn<=9223372036854775807:=hIn.2.1;have hsl:=yn A nn;have hne:w.heap.size≠w.heap.size+1:=by omega
 have d0:¬((nn:Int)+1=0):=by omega
 have BX2:=zH bx2;have HIN:=zH hIn;have HNN:=zH hn;clear bx2 hb2 hA CF hW1 hn hIn hown hz;go_wp2_with fail
 go_quiet (fail)
 obtain⟨w4,hw4⟩:∃w4,w2.drewN nq=w4:=⟨_,rfl⟩
 rw[hw4];have hb4:Below w2.heap.size w2 w4:=by rw[<-hw4];exact zg (Below.refl _ _) nq
 have BX4:=zH (BX2.out.below hb4);have HI4:=zH (HIN.out.below hb4);have hmm:=@run_makeMap Tryz.prog;obtain⟨v1,v2,v3,v4,v5,v6,v7,v8,v9,v10,v11,v12,Wm,r1,r2,r3,r4,r5,r6,r7,r8,r9,r10,r11,r12,r13,⟨hl1,hl2⟩,hbm⟩:=yW Tryz.underlying61 Tryz.underlying9 Tryz.zeroValue3 w4;have BX:=zH (BX4.out.below hbm);have HI:=zH (HI4.out.below hbm);clear hw4 hb4 hbm BX4 HI4 HIN BX2 BX0 c0 hsl hA1 hA2
 skip
 have hl:=hl1 .rot;unfold Cm.many Cm.name at hl;unfold Cm.name;have enn:nn=2:=by have:=HNN.out;rw[hlen]at this;exact this.symm
 subst enn;have ht1:yS 2=1:=rfl;rw[ht1]at HI ⊢;clear hl1 hl2 ht1;have hFD:yd [110,110] ws [] ByteArray.empty=R:=by
  rw[<-hF];unfold zB;rw[if_neg (fun h=>h hlen)];rfl
 have HFD:=zH hFD;have HWL:Hid (ws.length=2):=zH hlen;clear hFD hlen;go_wp2_with fail
 clear r1 r2 r3 r4 r5 r6 r7 r8 r9 r10 r11 r12 r13 hmm hl;obtain⟨w5,rfl⟩:∃w5,w5=Wm:=⟨_,rfl⟩
 have BX5:=BX;have HI5:=HI;clear BX HI;go_loopw [12,72] (fun vx vj wr=>∃(j:Nat) (acc:List Nat),vj=.int .i64 j/\j<=2/\acc.length=j/\Hid (yd (([110,110]:List UInt8).drop j) (ws.drop j) acc ByteArray.empty=R)/\Hid (wr.ownsRow w5.heap.size 3 1 vx acc.length (acc.map qU))/\Hid (Below w5.heap.size w5 wr)) (fun _ vj _=>2-(intOf vj).toNat)
 case atStart=>exact⟨0,[],rfl,by omega,rfl,HFD,zH (World.ownsRow_nil _ _ _ _),zH (Below.refl _ _)⟩
 case round=>
  obtain⟨j,acc,rfl,hj,hacc,HD,HO,HB⟩:=hrel;obtain⟨wo,rfl⟩:∃wo,wo=wr:=⟨_,rfl⟩
  by_cases hjl:j<2
  . have hjw:j<ws.length:=by rw[HWL.out];omega
    have hjf:j<([110,110]:List UInt8).length:=by show j<2;omega
    have hstep:=ye hjf hjw acc ByteArray.empty;rw[if_neg (vL (K:=2) rfl hjl hjf),HD.out]at hstep;obtain⟨y,hy⟩:∃y,ws[j]=y:=⟨_,rfl⟩
    have hym:y∈ws:=by rw[<-hy];exact List.getElem_mem _
    obtain⟨bq,oq,hbo,hc0⟩:=HI5.out.2.2.2 j (.string y) (by rw[List.getElem?_map,List.getElem?_eq_getElem hjw,hy];rfl);cases hbo;have hc:=(HB.out.cell (p:=⟨A,1+j,none⟩) (World.block_lt_of_cell? _ _ hc0)).trans hc0;have hys:=HI5.out.2.2.1 y hym;rw[hy]at hstep;have CX:=zH fun W=>yE y W hys
    unfold qk at CX;have k2:(j:Int)<2:=by omega
    cases hnum:y7 y with
    |none=>
     rw[hnum]at hstep CX;have HT0:Hid (Z=(⟨n,k,wr0,r,st⟩,zt 12)):=zH (by rw[HZ.out];unfold zK;rw[hF,hstep]);clear hstep hy hc0 hnum;go_wp2_with (go_at_call 23;(with_reducible refine(CX.out _).mono ?_);rintro e w9 ⟨rfl,hb9⟩)
     have BX:=zH ((BX5.out.below HB.out).below hb9);clear hb9 CX hc HD HO HB HI5 BX5 HFD HWL hym hys hjw hjf hacc hjl hj k2 HNN d0 hn0 hmf;obtain⟨hbxx, -⟩:Bx w _ (shC n k wr0 r D mw (.slice ao la ca)) shZ/\True:=⟨BX.out,trivial⟩
     obtain⟨x0,x1,x2,x3,x4,x5,x6⟩:=hbxx.old;obtain⟨⟨z0,z1,z2,z3,z4,z5,z6⟩,f0,f1,f2,f3,f4,f5,f6⟩:=hbxx.res;clear hbxx;go_wp2_with fail
     go_region_held3 (fun w'=>w'.cell? ⟨w.heap.size,0,none⟩=some (.int .i64 (n:Int))/\w'.cell? ⟨w.heap.size,1,none⟩=some (.int .i64 (k:Int))/\w'.cell? ⟨w.heap.size,2,none⟩=some (.int .i64 (wr0:Int))/\w'.cell? ⟨w.heap.size,3,none⟩=some (.int .i64 (r:Int))/\w'.cell? ⟨w.heap.size,4,none⟩=some (.int .u16 (D:Int))/\w'.cell? ⟨w.heap.size,5,none⟩=some (.int .i64 (mw:Int))/\w'.cell? ⟨w.heap.size,6,none⟩=some (.slice ao la ca)) (first|(with_reducible exact HKK.out)|(with_reducible exact(BX.out.put7 _ _ _ _ _ _ _).old)|(with_reducible exact(BZ.out.put7 _ _ _ _ _ _ _).old)|go_keep)
      (first|(go_at_call 22;(with_reducible refine(CR.out _ (by first|exact BX.out.b|exact BX.out.drew.b|exact(BX.out.put7 _ _ _ _ _ _ _).b|exact(BX.out.put7 _ _ _ _ _ _ _).drew.b)).mono ?_);rintro e w3 ⟨rfl,hb3⟩;(first|(have BZ:=zH (BX.out.below hb3))|(have BZ:=zH (BX.out.drew.below hb3))|(have BZ:=zH ((BX.out.put7 _ _ _ _ _ _ _).below hb3))|(have BZ:=zH ((BX.out.put7 _ _ _ _ _ _ _).drew.below hb3)));have HKK:=zH BZ.out.old;(first|(obtain⟨⟨zz0,zz1,zz2,zz3,zz4,zz5,zz6⟩,ff0,ff1,ff2,ff3,ff4,ff5,ff6⟩:=BZ.out.res)|skip)))
     obtain⟨q0,q1,q2,q3,q4,q5,q6⟩:=zv (BZ.out.put7 (.int .i64 (n:Int)) (.int .i64 (k:Int)) (.int .i64 (wr0:Int)) (.int .i64 (r:Int)) (.int .u16 (D:Int)) (.int .i64 (mw:Int)) (.slice ao la ca)).r;have hbz:=(BZ.out.put7 (.int .i64 (n:Int)) (.int .i64 (k:Int)) (.int .i64 (wr0:Int)) (.int .i64 (r:Int)) (.int .u16 (D:Int)) (.int .i64 (mw:Int)) (.slice ao la ca)).b;unfold put7 at q0 q1 q2 q3 q4 q5 q6 hbz;have HBZ:=zH hbz;clear hbz;go_wp2_with fail
     refine bodyPost_ret (v:=.tuple #[.agg (shC n k wr0 r D mw (.slice ao la ca)),.string (zt 12)]) (by simp[results,Tryz.results11,go_sem,q0,q1,q2,q3,q4,q5,q6];try rfl) rfl ?_;rw[HT0.out];exact⟨D,All,ao,ca,by rw[hla,hmw],hSh,hRd.below HBZ.out,hnone,.inl rfl,HBZ.out⟩
    |some nv=>
     rw[hnum]at hstep CX;have HD2:=zH hstep.symm;clear hstep hy hc0 hnum;go_wp2_with (first
      |(go_at_call 23;(with_reducible refine(CX.out _).mono ?_);rintro e w9 ⟨rfl,hb9⟩;have HB9:=zH (HB.out.trans (hb9.mono HB.out.size));have HO9:=zH (zi HO.out hb9))
      |(at_builtin;go_must (refine yr rfl (.tmp 85) (.tmp 87) 62 rfl w5.heap.size 3 _ 1 8 Tryz.underlying62 yQ _ acc.length _ (by rfl) HO9.out [.int .i64 (nv:Int)] (by rfl) rfl (by intro u hu;simp at hu;subst hu;rfl) (by unfold maxLen;omega) (by omega) HB9.out.size ?_);intro v6 w6 hown6 hgr6 hb6;have HO6:Hid (w6.ownsRow w5.heap.size 3 1 v6 (acc++[nv]).length ((acc++[nv]).map qU)):=zH (by rw[List.length_append,List.map_append];exact hown6);have HB6:=zH (HB9.out.trans hb6);clear hown6 hgr6 hb6)
      |fail)
     go_roundw
     case rel=>exact⟨j+1,acc++[nv],by go_num,by omega,by rw[List.length_append,List.length_singleton];omega,HD2,HO6,HB6⟩
     case measure=>simp[intOf];omega
  . have em:(j:Int)=2:=by omega
    rw[em];obtain rfl:j=2:=by omega
    clear em;obtain⟨a,b,rfl⟩:=zeL hacc;have hend:=yB (f:=[110,110]) (ws:=ws) (j:=2) (by rw[HWL.out];exact Nat.le_refl _) [a,b] ByteArray.empty;rw[HD.out]at hend;subst hend;have hbd:=(zu hF).2.1;have ha:=hbd a (by simp);have hb:=hbd b (by simp);clear hbd;obtain⟨g,cx,rfl,hg0,hg1,hcell⟩:=zp (n:=2) rfl (by omega) HO.out;have c0:=hcell 0 a rfl;have c1:=hcell 1 b rfl;clear hcell HO HD HFD hacc hj hjl;have BX4:=zH (BX5.out.below HB.out);have hty:(⟨#[]⟩:ByteArray).size<=9223372036854775807:=Nat.zero_le _;have CD0:∀W,Below w.heap.size w W->Calls Tryz.prog 26 #[.agg (shC n k wr0 r D mw (.slice ao la ca)),deedV 7 (b:Int) (a:Int) ⟨#[]⟩] W (yo n k wr0 r ao (doF n k wr0 r st 7 (b:Int) (a:Int) ⟨#[]⟩) W):=fun W hb=>by
     have:=vY 7 (b:Int) (a:Int) ⟨#[]⟩ hty hk1 hkn hn hSh ao ca W (r:=r) (wr0:=wr0) (hRd.below hb) hnone;rw[hla,hmw]at this;exact this
    have hZZ:Z=yk ⟨n,k,wr0,r,st⟩ 7 b a ByteArray.empty:=by rw[HZ.out];unfold zK;rw[hF];rfl
    have hT:=yJ (n:=n) (k:=k) (wr:=wr0) (r:=r) hSh.ok hk1 7 (b:Int) (a:Int) ⟨#[]⟩;obtain⟨RR,hRR⟩:∃RR,doF n k wr0 r st 7 (b:Int) (a:Int) ⟨#[]⟩=RR:=⟨_,rfl⟩
    obtain⟨st',⟨tx,at',mn⟩,E⟩:=RR;rw[hRR]at CD0 hT;have hZ2:Z=(⟨n,k,wr0,r,st'⟩,yq 7 ⟨tx,at',mn⟩ E):=by
     have hR':doF n k wr0 r st ((7:Nat):Int) ((b:Nat):Int) ((a:Nat):Int) ByteArray.empty=(st',⟨tx,at',mn⟩,E):=hRR;rw[hZZ];unfold yk;simp only;rw[hR']
    have hTe:=hT.e;have hTa:=hT.a;have hTm:=hT.m;have hTx:=hT.x;simp only at hTe hTa hTm hTx;have CD:=zH CD0;have HZ2:=zH hZ2;have nk:=fun m' hm'=>ka .rot m' ⟨by decide,hm'⟩
    have CRN:=zH fun v W=>vh Cm.rot.name v W (y8 nk)
    unfold Cm.name at CRN;have hmm:=@run_makeMap Tryz.prog;obtain⟨u1,u2,u3,u4,u5,u6,u7,Wk,k1,k2,k3,k4,k5,k6,k7,k8,hkk,hbk⟩:=kb Tryz.underlying61 Tryz.underlying9 Tryz.zeroValue3 wo;have hk:=hkk .rot (by decide);unfold Cm.name Cm.kind at hk;have BXk:=zH (BX4.out.below hbk);have e0:=(hbk.cell (p:=⟨g,0,none⟩) hg1).trans c0;have e1:=(hbk.cell (p:=⟨g,1,none⟩) hg1).trans c1;have hgk:g<Wk.heap.size:=Nat.lt_of_lt_of_le hg1 hbk.size;clear hZ2 hZZ hRR hT HZ hF CD0 hkk hbk BX4 hty hSh hRd hnone BX5 HI5;go_wp2_with (go_at_call 25;(with_reducible refine(CRN.out _ _).mono ?_);rintro e w9 ⟨rfl,rfl⟩)
    clear k1 k2 k3 k4 k5 k6 k7 k8 hmm hk CRN
    go_region_held3 (fun w'=>w'.cell? ⟨g,0,none⟩=some (.int .i64 (a:Int))/\w'.cell? ⟨g,1,none⟩=some (.int .i64 (b:Int))) (first|go_keep) (first|fail)
    obtain⟨W7,hW7⟩:∃W7,(Wk.alloc (.cells #[.int .i64 7,.int .i64 (b:Int),.int .i64 (a:Int),.string ⟨#[]⟩] 66)).drew=W7:=⟨_,rfl⟩
    rw[hW7];have hb7:Below Wk.heap.size Wk W7:=by rw[<-hW7];exact zb (zc _ _)
    have hd7:W7.heap[Wk.heap.size]?=some (.cells #[.int .i64 7,.int .i64 (b:Int),.int .i64 (a:Int),.string ⟨#[]⟩] 66 (0,0)):=by rw[<-hW7];exact heap_alloc_new Wk _
    have hs7:Wk.heap.size<W7.heap.size:=by rw[<-hW7];simp
    have hbx7:=BXk.out.below hb7;obtain⟨x0,x1,x2,x3,x4,x5,x6⟩:=hbx7.old;obtain⟨d0,d1,d2,d3⟩:=zc4 hd7;have BX7:=zH hbx7;have HD7:=zH hd7;have hnS:w.heap.size≠Wk.heap.size:=by have:=BXk.out.n;omega
    have HNS:=zH hnS;clear hbx7 hb7 hd7 hW7 BXk e0 e1 hgk;go_wp2_with fail
    (with_reducible refine(CD.out _ BX7.out.b).mono ?_);rintro e w8 hpost
    obtain⟨D',mw',la',ca',ao',rfl,hb8,hK⟩:=qK rfl hao BX7.out hpost;have bx8:=BX7.out.below hb8;obtain⟨x0,x1,x2,x3,x4,x5,x6⟩:=bx8.old;obtain⟨f0,f1,f2,f3,f4,f5,f6⟩:=bx8.oldF;have hlt8:w.heap.size<w8.heap.size:=by have:=bx8.n;omega
    have hneT0:w8.heap.size≠w.heap.size+1:=by have:=bx8.n;omega
    have hltY0:w8.heap.size<((put7 w8 w.heap.size (.int .i64 (n:Int)) (.int .i64 (k:Int)) (.int .i64 (wr0:Int)) (.int .i64 (r:Int)) (.int .u16 (D':Int)) (.int .i64 (mw':Int)) (.slice ao' la' ca')).alloc (.cells #[.string tx,.int .i64 (at':Int),.int .i64 0,.int .i64 (mn:Int)] 70)).heap.size:=by rw[World.size_alloc,yj];exact Nat.lt_succ_self _
    have hK2:=hK (.cells #[.string tx,.int .i64 (at':Int),.int .i64 0,.int .i64 (mn:Int)] 70 (0,0));have hdd:Wk.heap.size<w8.heap.size:=Nat.lt_of_lt_of_le hs7 hb8.size;have hdY:((put7 w8 w.heap.size (.int .i64 (n:Int)) (.int .i64 (k:Int)) (.int .i64 (wr0:Int)) (.int .i64 (r:Int)) (.int .u16 (D':Int)) (.int .i64 (mw':Int)) (.slice ao' la' ca')).alloc (.cells #[.string tx,.int .i64 (at':Int),.int .i64 0,.int .i64 (mn:Int)] 70)).heap[Wk.heap.size]?=some (.cells #[.int .i64 7,.int .i64 (b:Int),.int .i64 (a:Int),.string ⟨#[]⟩] 66 (0,0)):=by
     refine za _ _ ?_;rw[qt hnS];exact(hb8.block _ hs7).trans HD7.out
    have htY:((put7 w8 w.heap.size (.int .i64 (n:Int)) (.int .i64 (k:Int)) (.int .i64 (wr0:Int)) (.int .i64 (r:Int)) (.int .u16 (D':Int)) (.int .i64 (mw':Int)) (.slice ao' la' ca')).alloc (.cells #[.string tx,.int .i64 (at':Int),.int .i64 0,.int .i64 (mn:Int)] 70)).heap[w8.heap.size]?=some (.cells #[.string tx,.int .i64 (at':Int),.int .i64 0,.int .i64 (mn:Int)] 70 (0,0)):=zl _ _ _ (yj _ _ _ _ _ _ _ _ _);obtain⟨Y,hY⟩:∃Y,(put7 w8 w.heap.size (.int .i64 (n:Int)) (.int .i64 (k:Int)) (.int .i64 (wr0:Int)) (.int .i64 (r:Int)) (.int .u16 (D':Int)) (.int .i64 (mw':Int)) (.slice ao' la' ca')).alloc (.cells #[.string tx,.int .i64 (at':Int),.int .i64 0,.int .i64 (mn:Int)] 70)=Y:=⟨_,rfl⟩
    rw[hY]at hK2 hdY htY hltY0;have K:=zH hK2;have dk0:=zd hdY 0;obtain⟨t0,t1⟩:=zc2 htY;have t3:=zd htY 3;simp only[List.getElem?_toArray,List.getElem?_cons_zero,List.getElem?_cons_succ]at dk0 t3;unfold put7 at hY;clear hK hK2 hdY htY bx8 hpost BX7 HD7 hb8 CD;by_cases hE:E=0
    . subst hE;have hz:Z=(⟨n,k,wr0,r,st'⟩,dkOK):=HZ2.out;have HZ3:=zH hz;clear hz HZ2;have BX:=zH K.out.bx;obtain⟨x0,x1,x2,x3,x4,x5,x6⟩:=BX.out.old;obtain⟨⟨z0,z1,z2,z3,z4,z5,z6⟩,f0,f1,f2,f3,f4,f5,f6⟩:=BX.out.res;obtain⟨q0,q1,q2,q3,q4,q5,q6⟩:=zv (BX.out.put7 (.int .i64 (n:Int)) (.int .i64 (k:Int)) (.int .i64 (wr0:Int)) (.int .i64 (r:Int)) (.int .u16 (D':Int)) (.int .i64 (mw':Int)) (.slice ao' la' ca')).r;unfold put7 at q0 q1 q2 q3 q4 q5 q6;go_wp2_with fail
      refine bodyPost_ret (v:=.tuple #[.agg (shC n k wr0 r D' mw' (.slice ao' la' ca')),.string dkOK]) (by simp[results,Tryz.results11,go_sem,q0,q1,q2,q3,q4,q5,q6];try rfl) rfl ?_;rw[HZ3.out];exact K.out.fin hao _
    . have tE:((E:Int)!=0)=true:=by simp;exact hE
      have hz:Z=(⟨n,k,wr0,r,st'⟩,zt (E:Int)):=by rw[HZ2.out];unfold yq;rw[if_pos hE]
      have HZ3:=zH hz;have CRE:=zH fun X (hX:Below w.heap.size w X)=>zx (E:Int) (by omega) (by omega) X (hW.below hX)
      unfold zq at CRE;clear hz HZ2 hE;go_wp2_with fail
      have BX:=zH K.out.bx;obtain⟨x0,x1,x2,x3,x4,x5,x6⟩:=BX.out.old;obtain⟨⟨z0,z1,z2,z3,z4,z5,z6⟩,f0,f1,f2,f3,f4,f5,f6⟩:=BX.out.res;go_wp2_with fail
      go_region_held3 (fun w'=>w'.cell? ⟨w.heap.size,0,none⟩=some (.int .i64 (n:Int))/\w'.cell? ⟨w.heap.size,1,none⟩=some (.int .i64 (k:Int))/\w'.cell? ⟨w.heap.size,2,none⟩=some (.int .i64 (wr0:Int))/\w'.cell? ⟨w.heap.size,3,none⟩=some (.int .i64 (r:Int))/\w'.cell? ⟨w.heap.size,4,none⟩=some (.int .u16 (D':Int))/\w'.cell? ⟨w.heap.size,5,none⟩=some (.int .i64 (mw':Int))/\w'.cell? ⟨w.heap.size,6,none⟩=some (.slice ao' la' ca')) (first|(with_reducible exact HKK.out)|(with_reducible exact(BZ.out.put7 _ _ _ _ _ _ _).old)|go_keep)
       (first|(go_at_call 22;(with_reducible refine(CRE.out _ (by first|exact BX.out.b|exact BX.out.drew.b)).mono ?_);rintro e w3 ⟨rfl,hb3⟩;(first|(have BZ:=zH (BX.out.below hb3))|(have BZ:=zH (BX.out.drew.below hb3)));have hbY:Below Y.heap.size Y w3:=(by first|exact hb3|exact(zb (Below.refl _ _)).trans hb3);have HKK:=zH (BZ.out.old);(first|(obtain⟨⟨zz0,zz1,zz2,zz3,zz4,zz5,zz6⟩,ff0,ff1,ff2,ff3,ff4,ff5,ff6⟩:=BZ.out.res)|skip)))
      obtain⟨q0,q1,q2,q3,q4,q5,q6⟩:=zv (BZ.out.put7 (.int .i64 (n:Int)) (.int .i64 (k:Int)) (.int .i64 (wr0:Int)) (.int .i64 (r:Int)) (.int .u16 (D':Int)) (.int .i64 (mw':Int)) (.slice ao' la' ca')).r;unfold put7 at q0 q1 q2 q3 q4 q5 q6;have K3:=zH (K.out.below hbY);clear hbY;go_wp2_with fail
      refine bodyPost_ret (v:=.tuple #[.agg (shC n k wr0 r D' mw' (.slice ao' la' ca')),.string (zt (E:Int))]) (by simp[results,Tryz.results11,go_sem,q0,q1,q2,q3,q4,q5,q6];try rfl) rfl ?_;rw[HZ3.out];exact K3.out.fin hao _
end Go.Proofs.YtmgfbmkfomebcaaGreatDoor
