/- wholeref.AnswerOf, command by command. (Printed by wip/tools/gen_desk6.py.) -/
import Derived.Test.YtmgfbmkfomebcaaGreatDoorDkM42
import Derived.Deep.RegionHeld3
import Derived.Deep.QuietTactic
set_option linter.unusedVariables false
set_option linter.unusedSimpArgs false
set_option maxRecDepth 100000
set_option maxHeartbeats 8000000
namespace Go.Proofs.YtmgfbmkfomebcaaGreatDoor
open Go.RowKit
theorem Cm.many_len(m:Cm):m.many=(m.form.length:Int):=by cases m<;>rfl
theorem JB(n k wr0 r D mw la ca:Nat)(ao:Option Addr)(w:World)(hW:DkW w)(x:ByteArray)(hx:x.size<=4294967296)(c:ByteArray)(ws:List ByteArray)(hws:zL x=c::ws)(hc:pm c=none):
 Calls Tryz.prog 11 #[.agg (shC n k wr0 r D mw (.slice ao la ca)),.string x] w (pN (shC n k wr0 r D mw (.slice ao la ca)) (zt 12) w):=by
 have hz:∀y∈c::ws,y.size<=9223372036854775807:=fun y hy=>by have:=zN (s:=x) (x:=y) (by rw[hws];exact hy);omega
 have hmf:∀(fn:Fn) (first cap:Array Value) (w:World),(Instr.makeFunc fn first cap).run Tryz.prog w=.ok (.func fn first cap) w:=fun _ _ _ _=>rfl
 have bx0:=Bx.first w (shC n k wr0 r D mw (.slice ao la ca));obtain⟨W1,hW1⟩:∃W1,(w.alloc (.cells (shC n k wr0 r D mw (.slice ao la ca)) 41)).alloc (.cells shZ 41)=W1:=⟨_,rfl⟩
 rw[hW1]at bx0;have CF:=zH (yp x W1 hx);unfold zM at CF;rw[hws]at CF;have CR:=zH fun X (hX:Below w.heap.size w X)=>zx 12 (by omega) (by omega) X (hW.below hX)
 unfold zq at CR;have BX0:=zH bx0;clear bx0;go_enter Tryz.func11,Tryz.ntmps11
 go_wp2_with fail
 (with_reducible refine CF.out.mono ?_);rintro e w2 ⟨A,rfl,hA,hown,hb2⟩
 obtain⟨c0,hIn,hA1,hA2⟩:=yA hz hown;have bx2:=BX0.out.below hb2;obtain⟨nn,hn⟩:∃nn,ws.length=nn:=⟨_,rfl⟩
 rw[hn]at hIn;simp only[List.length_cons,hn];have hn0:nn<=9223372036854775807:=hIn.2.1;have hsl:=yn A nn;have hne:w.heap.size≠w.heap.size+1:=by omega
 have d0:¬((nn:Int)+1=0):=by omega
 have BX2:=zH bx2;have HIN:=zH hIn;have HNN:=zH hn;clear bx2 hb2 hA CF hW1 hn hIn hown hz;go_wp2_with fail
 go_quiet (fail)
 obtain⟨w4,hw4⟩:∃w4,w2.drewN nq=w4:=⟨_,rfl⟩
 rw[hw4];have hb4:Below w2.heap.size w2 w4:=by rw[<-hw4];exact zg (Below.refl _ _) nq
 have BX4:=zH (BX2.out.below hb4);have HI4:=zH (HIN.out.below hb4);have hmm:=@run_makeMap Tryz.prog;obtain⟨v1,v2,v3,v4,v5,v6,v7,v8,v9,v10,v11,v12,Wm,r1,r2,r3,r4,r5,r6,r7,r8,r9,r10,r11,r12,r13,⟨hl1,hl2⟩,hbm⟩:=yW Tryz.underlying61 Tryz.underlying9 Tryz.zeroValue3 w4;have BX:=zH (BX4.out.below hbm);have HI:=zH (HI4.out.below hbm);clear hw4 hb4 hbm BX4 HI4 HIN BX2 BX0 c0 hsl hA1 hA2;have hl:=hl2 c hc;clear hl1 hl2;obtain⟨hbxx, -⟩:Bx w _ (shC n k wr0 r D mw (.slice ao la ca)) shZ/\True:=⟨BX.out,trivial⟩
 obtain⟨x0,x1,x2,x3,x4,x5,x6⟩:=hbxx.old;obtain⟨⟨z0,z1,z2,z3,z4,z5,z6⟩,f0,f1,f2,f3,f4,f5,f6⟩:=hbxx.res;clear hbxx;go_wp2_with fail
 go_region_held3 (fun w'=>w'.cell? ⟨w.heap.size,0,none⟩=some (.int .i64 (n:Int))/\w'.cell? ⟨w.heap.size,1,none⟩=some (.int .i64 (k:Int))/\w'.cell? ⟨w.heap.size,2,none⟩=some (.int .i64 (wr0:Int))/\w'.cell? ⟨w.heap.size,3,none⟩=some (.int .i64 (r:Int))/\w'.cell? ⟨w.heap.size,4,none⟩=some (.int .u16 (D:Int))/\w'.cell? ⟨w.heap.size,5,none⟩=some (.int .i64 (mw:Int))/\w'.cell? ⟨w.heap.size,6,none⟩=some (.slice ao la ca)) (first|(with_reducible exact HKK.out)|(with_reducible exact(BX.out.put7 _ _ _ _ _ _ _).old)|(with_reducible exact(BZ.out.put7 _ _ _ _ _ _ _).old)|go_keep)
  (first|(go_at_call 22;(with_reducible refine(CR.out _ (by first|exact BX.out.b|exact BX.out.drew.b|exact(BX.out.put7 _ _ _ _ _ _ _).b|exact(BX.out.put7 _ _ _ _ _ _ _).drew.b)).mono ?_);rintro e w3 ⟨rfl,hb3⟩;(first|(have BZ:=zH (BX.out.below hb3))|(have BZ:=zH (BX.out.drew.below hb3))|(have BZ:=zH ((BX.out.put7 _ _ _ _ _ _ _).below hb3))|(have BZ:=zH ((BX.out.put7 _ _ _ _ _ _ _).drew.below hb3)));have HKK:=zH BZ.out.old;(first|(obtain⟨⟨zz0,zz1,zz2,zz3,zz4,zz5,zz6⟩,ff0,ff1,ff2,ff3,ff4,ff5,ff6⟩:=BZ.out.res)|skip)))
 obtain⟨q0,q1,q2,q3,q4,q5,q6⟩:=zv (BZ.out.put7 (.int .i64 (n:Int)) (.int .i64 (k:Int)) (.int .i64 (wr0:Int)) (.int .i64 (r:Int)) (.int .u16 (D:Int)) (.int .i64 (mw:Int)) (.slice ao la ca)).r;have hbz:=(BZ.out.put7 (.int .i64 (n:Int)) (.int .i64 (k:Int)) (.int .i64 (wr0:Int)) (.int .i64 (r:Int)) (.int .u16 (D:Int)) (.int .i64 (mw:Int)) (.slice ao la ca)).b;unfold put7 at q0 q1 q2 q3 q4 q5 q6 hbz;have HBZ:=zH hbz;clear hbz;go_wp2_with fail
 refine bodyPost_ret (v:=.tuple #[.agg (shC n k wr0 r D mw (.slice ao la ca)),.string (zt 12)]) (by simp[results,Tryz.results11,go_sem,q0,q1,q2,q3,q4,q5,q6];try rfl) rfl ?_;exact⟨rfl,HBZ.out⟩
theorem zeK(n k wr0 r D mw la ca:Nat)(ao:Option Addr)(w:World)(hW:DkW w)(x:ByteArray)(hx:x.size<=4294967296)(m:Cm)(ws:List ByteArray)(hws:zL x=m.name::ws)(hlen:ws.length≠m.form.length):
 Calls Tryz.prog 11 #[.agg (shC n k wr0 r D mw (.slice ao la ca)),.string x] w (pN (shC n k wr0 r D mw (.slice ao la ca)) (zt 12) w):=by
 have hz:∀y∈m.name::ws,y.size<=9223372036854775807:=fun y hy=>by have:=zN (s:=x) (x:=y) (by rw[hws];exact hy);omega
 have hmf:∀(fn:Fn) (first cap:Array Value) (w:World),(Instr.makeFunc fn first cap).run Tryz.prog w=.ok (.func fn first cap) w:=fun _ _ _ _=>rfl
 have bx0:=Bx.first w (shC n k wr0 r D mw (.slice ao la ca));obtain⟨W1,hW1⟩:∃W1,(w.alloc (.cells (shC n k wr0 r D mw (.slice ao la ca)) 41)).alloc (.cells shZ 41)=W1:=⟨_,rfl⟩
 rw[hW1]at bx0;have CF:=zH (yp x W1 hx);unfold zM at CF;rw[hws]at CF;have CR:=zH fun X (hX:Below w.heap.size w X)=>zx 12 (by omega) (by omega) X (hW.below hX)
 unfold zq at CR;have BX0:=zH bx0;clear bx0;go_enter Tryz.func11,Tryz.ntmps11
 go_wp2_with fail
 (with_reducible refine CF.out.mono ?_);rintro e w2 ⟨A,rfl,hA,hown,hb2⟩
 obtain⟨c0,hIn,hA1,hA2⟩:=yA hz hown;have bx2:=BX0.out.below hb2;obtain⟨nn,hn⟩:∃nn,ws.length=nn:=⟨_,rfl⟩
 rw[hn]at hIn;simp only[List.length_cons,hn];have hn0:nn<=9223372036854775807:=hIn.2.1;have hsl:=yn A nn;have hne:w.heap.size≠w.heap.size+1:=by omega
 have d0:¬((nn:Int)+1=0):=by omega
 have BX2:=zH bx2;have HIN:=zH hIn;have HNN:=zH hn;clear bx2 hb2 hA CF hW1 hn hIn hown hz;go_wp2_with fail
 go_quiet (fail)
 obtain⟨w4,hw4⟩:∃w4,w2.drewN nq=w4:=⟨_,rfl⟩
 rw[hw4];have hb4:Below w2.heap.size w2 w4:=by rw[<-hw4];exact zg (Below.refl _ _) nq
 have BX4:=zH (BX2.out.below hb4);have HI4:=zH (HIN.out.below hb4);have hmm:=@run_makeMap Tryz.prog;obtain⟨v1,v2,v3,v4,v5,v6,v7,v8,v9,v10,v11,v12,Wm,r1,r2,r3,r4,r5,r6,r7,r8,r9,r10,r11,r12,r13,⟨hl1,hl2⟩,hbm⟩:=yW Tryz.underlying61 Tryz.underlying9 Tryz.zeroValue3 w4;have BX:=zH (BX4.out.below hbm);have HI:=zH (HI4.out.below hbm);clear hw4 hb4 hbm BX4 HI4 HIN BX2 BX0 c0 hsl hA1 hA2;have hl:=hl1 m;rw[m.many_len]at hl;have dl:((m.form.length:Int)!=(nn:Int))=true:=by rw[bne_iff_ne];have:=HNN.out;omega
 obtain⟨mn,hmn⟩:∃mn:Int,(m.form.length:Int)=mn:=⟨_,rfl⟩
 rw[hmn]at hl dl;clear hl1 hl2 hmn;obtain⟨hbxx, -⟩:Bx w _ (shC n k wr0 r D mw (.slice ao la ca)) shZ/\True:=⟨BX.out,trivial⟩
 obtain⟨x0,x1,x2,x3,x4,x5,x6⟩:=hbxx.old;obtain⟨⟨z0,z1,z2,z3,z4,z5,z6⟩,f0,f1,f2,f3,f4,f5,f6⟩:=hbxx.res;clear hbxx;go_wp2_with fail
 go_region_held3 (fun w'=>w'.cell? ⟨w.heap.size,0,none⟩=some (.int .i64 (n:Int))/\w'.cell? ⟨w.heap.size,1,none⟩=some (.int .i64 (k:Int))/\w'.cell? ⟨w.heap.size,2,none⟩=some (.int .i64 (wr0:Int))/\w'.cell? ⟨w.heap.size,3,none⟩=some (.int .i64 (r:Int))/\w'.cell? ⟨w.heap.size,4,none⟩=some (.int .u16 (D:Int))/\w'.cell? ⟨w.heap.size,5,none⟩=some (.int .i64 (mw:Int))/\w'.cell? ⟨w.heap.size,6,none⟩=some (.slice ao la ca)) (first|(with_reducible exact HKK.out)|(with_reducible exact(BX.out.put7 _ _ _ _ _ _ _).old)|(with_reducible exact(BZ.out.put7 _ _ _ _ _ _ _).old)|go_keep)
  (first|(go_at_call 22;(with_reducible refine(CR.out _ (by first|exact BX.out.b|exact BX.out.drew.b|exact(BX.out.put7 _ _ _ _ _ _ _).b|exact(BX.out.put7 _ _ _ _ _ _ _).drew.b)).mono ?_);rintro e w3 ⟨rfl,hb3⟩;(first|(have BZ:=zH (BX.out.below hb3))|(have BZ:=zH (BX.out.drew.below hb3))|(have BZ:=zH ((BX.out.put7 _ _ _ _ _ _ _).below hb3))|(have BZ:=zH ((BX.out.put7 _ _ _ _ _ _ _).drew.below hb3)));have HKK:=zH BZ.out.old;(first|(obtain⟨⟨zz0,zz1,zz2,zz3,zz4,zz5,zz6⟩,ff0,ff1,ff2,ff3,ff4,ff5,ff6⟩:=BZ.out.res)|skip)))
 obtain⟨q0,q1,q2,q3,q4,q5,q6⟩:=zv (BZ.out.put7 (.int .i64 (n:Int)) (.int .i64 (k:Int)) (.int .i64 (wr0:Int)) (.int .i64 (r:Int)) (.int .u16 (D:Int)) (.int .i64 (mw:Int)) (.slice ao la ca)).r;have hbz:=(BZ.out.put7 (.int .i64 (n:Int)) (.int .i64 (k:Int)) (.int .i64 (wr0:Int)) (.int .i64 (r:Int)) (.int .u16 (D:Int)) (.int .i64 (mw:Int)) (.slice ao la ca)).b;unfold put7 at q0 q1 q2 q3 q4 q5 q6 hbz;have HBZ:=zH hbz;clear hbz;go_wp2_with fail
 refine bodyPost_ret (v:=.tuple #[.agg (shC n k wr0 r D mw (.slice ao la ca)),.string (zt 12)]) (by simp[results,Tryz.results11,go_sem,q0,q1,q2,q3,q4,q5,q6];try rfl) rfl ?_;exact⟨rfl,HBZ.out⟩
theorem vL{f:List UInt8}{K j:Nat}(h:(f.take K).all (fun c=>c !=119)=true)(hj:j<K)(hf:j<f.length):f[j]≠119:=by
 have h2:(f.take K)[j]'(by rw[List.length_take];exact Nat.lt_min.2 ⟨hj,hf⟩)=f[j]:=List.getElem_take;have:=List.all_eq_true.1 h ((f.take K)[j]'(by rw[List.length_take];exact Nat.lt_min.2 ⟨hj,hf⟩)) (List.getElem_mem _);rw[h2]at this;simpa using this
noncomputable def zdy(f:Nat->Nat->ByteArray):Option (List Nat×ByteArray)->ByteArray
 |none=>zt 12
 |some (x,_)=>f (x.getD 0 0) (x.getD 1 0)
theorem JC{l:List Nat}(h:l.length=1):∃a,l=[a]:=List.length_eq_one_iff.1 h
theorem zeL{l:List Nat}(h:l.length=2):∃a b,l=[a,b]:=by
 match l,h with
 |[a,b],_=>exact⟨a,b,rfl⟩
theorem zgc{l:List Nat}(h:l.length=4):∃a b c d,l=[a,b,c,d]:=by
 match l,h with
 |[a,b,c,d],_=>exact⟨a,b,c,d,rfl⟩
theorem Y2(A:Nat):(∀W,(Instr.slice 22 (.slice (some ⟨A,1,none⟩) 2 2) none (some (.int .i64 1)) none).run Tryz.prog W=.ok (.slice (some ⟨A,1,none⟩) 1 2) W)/\
 (∀W,(Instr.slice 22 (.slice (some ⟨A,1,none⟩) 3 3) none (some (.int .i64 2)) none).run Tryz.prog W=.ok (.slice (some ⟨A,1,none⟩) 2 3) W):=⟨fun _=>by kernel_rfl,fun _=>by kernel_rfl⟩
theorem zeM(n k wr0 r D mw la ca:Nat)(ao:Option Addr)(w:World)(hW:DkW w)(x:ByteArray)(hx:x.size<=4294967296)(ws:List ByteArray)(hws:zL x=Cm.gcd.name::ws)(hlen:ws.length=Cm.gcd.form.length)(R:Option (List Nat×ByteArray))(hF:zB Cm.gcd.form ws=R)(T:ByteArray)(HT:Hid (T=zdy jU R)):
 Calls Tryz.prog 11 #[.agg (shC n k wr0 r D mw (.slice ao la ca)),.string x] w (pN (shC n k wr0 r D mw (.slice ao la ca)) T w):=by
 have hz:∀y∈Cm.gcd.name::ws,y.size<=9223372036854775807:=fun y hy=>by have:=zN (s:=x) (x:=y) (by rw[hws];exact hy);omega
 have hmf:∀(fn:Fn) (first cap:Array Value) (w:World),(Instr.makeFunc fn first cap).run Tryz.prog w=.ok (.func fn first cap) w:=fun _ _ _ _=>rfl
 have bx0:=Bx.first w (shC n k wr0 r D mw (.slice ao la ca));obtain⟨W1,hW1⟩:∃W1,(w.alloc (.cells (shC n k wr0 r D mw (.slice ao la ca)) 41)).alloc (.cells shZ 41)=W1:=⟨_,rfl⟩
 rw[hW1]at bx0;have CF:=zH (yp x W1 hx);unfold zM at CF;rw[hws]at CF;have CR:=zH fun X (hX:Below w.heap.size w X)=>zx 12 (by omega) (by omega) X (hW.below hX)
 unfold zq at CR;have BX0:=zH bx0;clear bx0;go_enter Tryz.func11,Tryz.ntmps11
 go_wp2_with fail
 (with_reducible refine CF.out.mono ?_);rintro e w2 ⟨A,rfl,hA,hown,hb2⟩
 obtain⟨c0,hIn,hA1,hA2⟩:=yA hz hown;have bx2:=BX0.out.below hb2;obtain⟨nn,hn⟩:∃nn,ws.length=nn:=⟨_,rfl⟩
 rw[hn]at hIn;simp only[List.length_cons,hn];have hn0:nn<=9223372036854775807:=hIn.2.1;have hsl:=yn A nn;have hne:w.heap.size≠w.heap.size+1:=by omega
 have d0:¬((nn:Int)+1=0):=by omega
 have BX2:=zH bx2;have HIN:=zH hIn;have HNN:=zH hn;clear bx2 hb2 hA CF hW1 hn hIn hown hz;go_wp2_with fail
 go_quiet (fail)
 obtain⟨w4,hw4⟩:∃w4,w2.drewN nq=w4:=⟨_,rfl⟩
 rw[hw4];have hb4:Below w2.heap.size w2 w4:=by rw[<-hw4];exact zg (Below.refl _ _) nq
 have BX4:=zH (BX2.out.below hb4);have HI4:=zH (HIN.out.below hb4);have hmm:=@run_makeMap Tryz.prog;obtain⟨v1,v2,v3,v4,v5,v6,v7,v8,v9,v10,v11,v12,Wm,r1,r2,r3,r4,r5,r6,r7,r8,r9,r10,r11,r12,r13,⟨hl1,hl2⟩,hbm⟩:=yW Tryz.underlying61 Tryz.underlying9 Tryz.zeroValue3 w4;have BX:=zH (BX4.out.below hbm);have HI:=zH (HI4.out.below hbm);clear hw4 hb4 hbm BX4 HI4 HIN BX2 BX0 c0 hsl hA1 hA2
 skip
 have hl:=hl1 .gcd;unfold Cm.many Cm.name at hl;unfold Cm.name;have enn:nn=2:=by have:=HNN.out;rw[hlen]at this;exact this.symm
 subst enn;have ht1:yS 2=1:=rfl;rw[ht1]at HI ⊢;clear hl1 hl2 ht1;have hFD:yd [110,110] ws [] ByteArray.empty=R:=by
  rw[<-hF];unfold zB;rw[if_neg (fun h=>h hlen)];rfl
 have HFD:=zH hFD;have HWL:Hid (ws.length=2):=zH hlen;clear hFD hlen;go_wp2_with fail
 clear r1 r2 r3 r4 r5 r6 r7 r8 r9 r10 r11 r12 r13 hmm hl;obtain⟨w5,rfl⟩:∃w5,w5=Wm:=⟨_,rfl⟩
 have BX5:=BX;have HI5:=HI;clear BX HI;go_loopw [12,72] (fun vx vj wr=>∃(j:Nat) (acc:List Nat),vj=.int .i64 j/\j<=2/\acc.length=j/\Hid (yd (([110,110]:List UInt8).drop j) (ws.drop j) acc ByteArray.empty=R)/\Hid (wr.ownsRow w5.heap.size 3 1 vx acc.length (acc.map qU))/\Hid (Below w5.heap.size w5 wr)) (fun _ vj _=>2-(intOf vj).toNat)
 case atStart=>exact⟨0,[],rfl,by omega,rfl,HFD,zH (World.ownsRow_nil _ _ _ _),zH (Below.refl _ _)⟩
 case round=>
  obtain⟨j,acc,rfl,hj,hacc,HD,HO,HB⟩:=hrel;obtain⟨wo,rfl⟩:∃wo,wo=wr:=⟨_,rfl⟩
  by_cases hjl:j<2
  . have hjw:j<ws.length:=by rw[HWL.out];omega
    have hjf:j<([110,110]:List UInt8).length:=by show j<2;omega
    have hstep:=ye hjf hjw acc ByteArray.empty;rw[if_neg (vL (K:=2) rfl hjl hjf),HD.out]at hstep;obtain⟨y,hy⟩:∃y,ws[j]=y:=⟨_,rfl⟩
    have hym:y∈ws:=by rw[<-hy];exact List.getElem_mem _
    obtain⟨bq,oq,hbo,hc0⟩:=HI5.out.2.2.2 j (.string y) (by rw[List.getElem?_map,List.getElem?_eq_getElem hjw,hy];rfl);cases hbo;have hc:=(HB.out.cell (p:=⟨A,1+j,none⟩) (World.block_lt_of_cell? _ _ hc0)).trans hc0;have hys:=HI5.out.2.2.1 y hym;rw[hy]at hstep;have CX:=zH fun W=>yE y W hys
    unfold qk at CX;have k2:(j:Int)<2:=by omega
    cases hnum:y7 y with
    |none=>
     rw[hnum]at hstep CX;have HT0:Hid (T=zt 12):=zH (by rw[HT.out,hstep];rfl);clear hstep hy hc0 hnum;go_wp2_with (go_at_call 23;(with_reducible refine(CX.out _).mono ?_);rintro e w9 ⟨rfl,hb9⟩)
     have BX:=zH ((BX5.out.below HB.out).below hb9);clear hb9 CX hc HD HO HB HI5 BX5 HFD HWL hym hys hjw hjf hacc hjl hj k2 HNN d0 hn0 hmf;obtain⟨hbxx, -⟩:Bx w _ (shC n k wr0 r D mw (.slice ao la ca)) shZ/\True:=⟨BX.out,trivial⟩
     obtain⟨x0,x1,x2,x3,x4,x5,x6⟩:=hbxx.old;obtain⟨⟨z0,z1,z2,z3,z4,z5,z6⟩,f0,f1,f2,f3,f4,f5,f6⟩:=hbxx.res;clear hbxx;go_wp2_with fail
     go_region_held3 (fun w'=>w'.cell? ⟨w.heap.size,0,none⟩=some (.int .i64 (n:Int))/\w'.cell? ⟨w.heap.size,1,none⟩=some (.int .i64 (k:Int))/\w'.cell? ⟨w.heap.size,2,none⟩=some (.int .i64 (wr0:Int))/\w'.cell? ⟨w.heap.size,3,none⟩=some (.int .i64 (r:Int))/\w'.cell? ⟨w.heap.size,4,none⟩=some (.int .u16 (D:Int))/\w'.cell? ⟨w.heap.size,5,none⟩=some (.int .i64 (mw:Int))/\w'.cell? ⟨w.heap.size,6,none⟩=some (.slice ao la ca)) (first|(with_reducible exact HKK.out)|(with_reducible exact(BX.out.put7 _ _ _ _ _ _ _).old)|(with_reducible exact(BZ.out.put7 _ _ _ _ _ _ _).old)|go_keep)
      (first|(go_at_call 22;(with_reducible refine(CR.out _ (by first|exact BX.out.b|exact BX.out.drew.b|exact(BX.out.put7 _ _ _ _ _ _ _).b|exact(BX.out.put7 _ _ _ _ _ _ _).drew.b)).mono ?_);rintro e w3 ⟨rfl,hb3⟩;(first|(have BZ:=zH (BX.out.below hb3))|(have BZ:=zH (BX.out.drew.below hb3))|(have BZ:=zH ((BX.out.put7 _ _ _ _ _ _ _).below hb3))|(have BZ:=zH ((BX.out.put7 _ _ _ _ _ _ _).drew.below hb3)));have HKK:=zH BZ.out.old;(first|(obtain⟨⟨zz0,zz1,zz2,zz3,zz4,zz5,zz6⟩,ff0,ff1,ff2,ff3,ff4,ff5,ff6⟩:=BZ.out.res)|skip)))
     obtain⟨q0,q1,q2,q3,q4,q5,q6⟩:=zv (BZ.out.put7 (.int .i64 (n:Int)) (.int .i64 (k:Int)) (.int .i64 (wr0:Int)) (.int .i64 (r:Int)) (.int .u16 (D:Int)) (.int .i64 (mw:Int)) (.slice ao la ca)).r;have hbz:=(BZ.out.put7 (.int .i64 (n:Int)) (.int .i64 (k:Int)) (.int .i64 (wr0:Int)) (.int .i64 (r:Int)) (.int .u16 (D:Int)) (.int .i64 (mw:Int)) (.slice ao la ca)).b;unfold put7 at q0 q1 q2 q3 q4 q5 q6 hbz;have HBZ:=zH hbz;clear hbz;go_wp2_with fail
     refine bodyPost_ret (v:=.tuple #[.agg (shC n k wr0 r D mw (.slice ao la ca)),.string (zt 12)]) (by simp[results,Tryz.results11,go_sem,q0,q1,q2,q3,q4,q5,q6];try rfl) rfl ?_;rw[HT0.out];exact⟨rfl,HBZ.out⟩
    |some nv=>
     rw[hnum]at hstep CX;have HD2:=zH hstep.symm;clear hstep hy hc0 hnum;go_wp2_with (first
      |(go_at_call 23;(with_reducible refine(CX.out _).mono ?_);rintro e w9 ⟨rfl,hb9⟩;have HB9:=zH (HB.out.trans (hb9.mono HB.out.size));have HO9:=zH (zi HO.out hb9))
      |(at_builtin;go_must (refine yr rfl (.tmp 85) (.tmp 87) 62 rfl w5.heap.size 3 _ 1 8 Tryz.underlying62 yQ _ acc.length _ (by rfl) HO9.out [.int .i64 (nv:Int)] (by rfl) rfl (by intro u hu;simp at hu;subst hu;rfl) (by unfold maxLen;omega) (by omega) HB9.out.size ?_);intro v6 w6 hown6 hgr6 hb6;have HO6:Hid (w6.ownsRow w5.heap.size 3 1 v6 (acc++[nv]).length ((acc++[nv]).map qU)):=zH (by rw[List.length_append,List.map_append];exact hown6);have HB6:=zH (HB9.out.trans hb6);clear hown6 hgr6 hb6)
      |fail)
     go_roundw
     case rel=>exact⟨j+1,acc++[nv],by go_num,by omega,by rw[List.length_append,List.length_singleton];omega,HD2,HO6,HB6⟩
     case measure=>simp[intOf];omega
  . have em:(j:Int)=2:=by omega
    rw[em];obtain rfl:j=2:=by omega
    clear em;obtain⟨a,b,rfl⟩:=zeL hacc;have hend:=yB (f:=[110,110]) (ws:=ws) (j:=2) (by rw[HWL.out];exact Nat.le_refl _) [a,b] ByteArray.empty;rw[HD.out]at hend;subst hend;have hbd:=(zu hF).2.1;have ha:=hbd a (by simp);have hb:=hbd b (by simp);clear hbd;obtain⟨g,cx,rfl,hg0,hg1,hcell⟩:=zp (n:=2) rfl (by omega) HO.out;have c0:=hcell 0 a rfl;have c1:=hcell 1 b rfl;clear hcell HO HD HFD hacc hj hjl;have BX4:=zH (BX5.out.below HB.out);have CK:=zH (zdF a b ha hb g cx wo (hW.below BX4.out.b) c0 c1);unfold jr at CK;have hTT:T=jU a b:=HT.out;rw[<-hTT]at CK;unfold Cm.name at CK;clear hTT hF HT;go_wp2_with fail
    (with_reducible refine CK.out.mono ?_);rintro e w6 ⟨rfl,hb6⟩
    have BX:=zH (BX4.out.below hb6);clear hb6 CK BX4 BX5;obtain⟨x0,x1,x2,x3,x4,x5,x6⟩:=BX.out.old;obtain⟨⟨z0,z1,z2,z3,z4,z5,z6⟩,f0,f1,f2,f3,f4,f5,f6⟩:=BX.out.res;obtain⟨q0,q1,q2,q3,q4,q5,q6⟩:=zv (BX.out.put7 (.int .i64 (n:Int)) (.int .i64 (k:Int)) (.int .i64 (wr0:Int)) (.int .i64 (r:Int)) (.int .u16 (D:Int)) (.int .i64 (mw:Int)) (.slice ao la ca)).r;have hbz:=(BX.out.put7 (.int .i64 (n:Int)) (.int .i64 (k:Int)) (.int .i64 (wr0:Int)) (.int .i64 (r:Int)) (.int .u16 (D:Int)) (.int .i64 (mw:Int)) (.slice ao la ca)).b;unfold put7 at q0 q1 q2 q3 q4 q5 q6 hbz;have HBZ:=zH hbz;clear hbz;go_wp2_with fail
    refine bodyPost_ret (v:=.tuple #[.agg (shC n k wr0 r D mw (.slice ao la ca)),.string T]) (by simp[results,Tryz.results11,go_sem,q0,q1,q2,q3,q4,q5,q6];try rfl) rfl ?_;exact⟨rfl,HBZ.out⟩
theorem zaO(n k wr0 r D mw la ca:Nat)(ao:Option Addr)(w:World)(hW:DkW w)(x:ByteArray)(hx:x.size<=4294967296)(ws:List ByteArray)(hws:zL x=Cm.factor.name::ws)(hlen:ws.length=Cm.factor.form.length)(R:Option (List Nat×ByteArray))(hF:zB Cm.factor.form ws=R)(T:ByteArray)(HT:Hid (T=zdy (fun a _=>ki a) R)):
 Calls Tryz.prog 11 #[.agg (shC n k wr0 r D mw (.slice ao la ca)),.string x] w (pN (shC n k wr0 r D mw (.slice ao la ca)) T w):=by
 have hz:∀y∈Cm.factor.name::ws,y.size<=9223372036854775807:=fun y hy=>by have:=zN (s:=x) (x:=y) (by rw[hws];exact hy);omega
 have hmf:∀(fn:Fn) (first cap:Array Value) (w:World),(Instr.makeFunc fn first cap).run Tryz.prog w=.ok (.func fn first cap) w:=fun _ _ _ _=>rfl
 have bx0:=Bx.first w (shC n k wr0 r D mw (.slice ao la ca));obtain⟨W1,hW1⟩:∃W1,(w.alloc (.cells (shC n k wr0 r D mw (.slice ao la ca)) 41)).alloc (.cells shZ 41)=W1:=⟨_,rfl⟩
 rw[hW1]at bx0;have CF:=zH (yp x W1 hx);unfold zM at CF;rw[hws]at CF;have CR:=zH fun X (hX:Below w.heap.size w X)=>zx 12 (by omega) (by omega) X (hW.below hX)
 unfold zq at CR;have BX0:=zH bx0;clear bx0;go_enter Tryz.func11,Tryz.ntmps11
 go_wp2_with fail
 (with_reducible refine CF.out.mono ?_);rintro e w2 ⟨A,rfl,hA,hown,hb2⟩
 obtain⟨c0,hIn,hA1,hA2⟩:=yA hz hown;have bx2:=BX0.out.below hb2;obtain⟨nn,hn⟩:∃nn,ws.length=nn:=⟨_,rfl⟩
 rw[hn]at hIn;simp only[List.length_cons,hn];have hn0:nn<=9223372036854775807:=hIn.2.1;have hsl:=yn A nn;have hne:w.heap.size≠w.heap.size+1:=by omega
 have d0:¬((nn:Int)+1=0):=by omega
 have BX2:=zH bx2;have HIN:=zH hIn;have HNN:=zH hn;clear bx2 hb2 hA CF hW1 hn hIn hown hz;go_wp2_with fail
 go_quiet (fail)
 obtain⟨w4,hw4⟩:∃w4,w2.drewN nq=w4:=⟨_,rfl⟩
 rw[hw4];have hb4:Below w2.heap.size w2 w4:=by rw[<-hw4];exact zg (Below.refl _ _) nq
 have BX4:=zH (BX2.out.below hb4);have HI4:=zH (HIN.out.below hb4);have hmm:=@run_makeMap Tryz.prog;obtain⟨v1,v2,v3,v4,v5,v6,v7,v8,v9,v10,v11,v12,Wm,r1,r2,r3,r4,r5,r6,r7,r8,r9,r10,r11,r12,r13,⟨hl1,hl2⟩,hbm⟩:=yW Tryz.underlying61 Tryz.underlying9 Tryz.zeroValue3 w4;have BX:=zH (BX4.out.below hbm);have HI:=zH (HI4.out.below hbm);clear hw4 hb4 hbm BX4 HI4 HIN BX2 BX0 c0 hsl hA1 hA2
 skip
 have hl:=hl1 .factor;unfold Cm.many Cm.name at hl;unfold Cm.name;have enn:nn=1:=by have:=HNN.out;rw[hlen]at this;exact this.symm
 subst enn;have ht1:yS 1=1:=rfl;rw[ht1]at HI ⊢;clear hl1 hl2 ht1;have hFD:yd [110] ws [] ByteArray.empty=R:=by
  rw[<-hF];unfold zB;rw[if_neg (fun h=>h hlen)];rfl
 have HFD:=zH hFD;have HWL:Hid (ws.length=1):=zH hlen;clear hFD hlen;go_wp2_with fail
 clear r1 r2 r3 r4 r5 r6 r7 r8 r9 r10 r11 r12 r13 hmm hl;obtain⟨w5,rfl⟩:∃w5,w5=Wm:=⟨_,rfl⟩
 have BX5:=BX;have HI5:=HI;clear BX HI;go_loopw [12,72] (fun vx vj wr=>∃(j:Nat) (acc:List Nat),vj=.int .i64 j/\j<=1/\acc.length=j/\Hid (yd (([110]:List UInt8).drop j) (ws.drop j) acc ByteArray.empty=R)/\Hid (wr.ownsRow w5.heap.size 3 1 vx acc.length (acc.map qU))/\Hid (Below w5.heap.size w5 wr)) (fun _ vj _=>1-(intOf vj).toNat)
 case atStart=>exact⟨0,[],rfl,by omega,rfl,HFD,zH (World.ownsRow_nil _ _ _ _),zH (Below.refl _ _)⟩
 case round=>
  obtain⟨j,acc,rfl,hj,hacc,HD,HO,HB⟩:=hrel;obtain⟨wo,rfl⟩:∃wo,wo=wr:=⟨_,rfl⟩
  by_cases hjl:j<1
  . have hjw:j<ws.length:=by rw[HWL.out];omega
    have hjf:j<([110]:List UInt8).length:=by show j<1;omega
    have hstep:=ye hjf hjw acc ByteArray.empty;rw[if_neg (vL (K:=1) rfl hjl hjf),HD.out]at hstep;obtain⟨y,hy⟩:∃y,ws[j]=y:=⟨_,rfl⟩
    have hym:y∈ws:=by rw[<-hy];exact List.getElem_mem _
    obtain⟨bq,oq,hbo,hc0⟩:=HI5.out.2.2.2 j (.string y) (by rw[List.getElem?_map,List.getElem?_eq_getElem hjw,hy];rfl);cases hbo;have hc:=(HB.out.cell (p:=⟨A,1+j,none⟩) (World.block_lt_of_cell? _ _ hc0)).trans hc0;have hys:=HI5.out.2.2.1 y hym;rw[hy]at hstep;have CX:=zH fun W=>yE y W hys
    unfold qk at CX;have k2:(j:Int)<1:=by omega
    cases hnum:y7 y with
    |none=>
     rw[hnum]at hstep CX;have HT0:Hid (T=zt 12):=zH (by rw[HT.out,hstep];rfl);clear hstep hy hc0 hnum;go_wp2_with (go_at_call 23;(with_reducible refine(CX.out _).mono ?_);rintro e w9 ⟨rfl,hb9⟩)
     have BX:=zH ((BX5.out.below HB.out).below hb9);clear hb9 CX hc HD HO HB HI5 BX5 HFD HWL hym hys hjw hjf hacc hjl hj k2 HNN d0 hn0 hmf;obtain⟨hbxx, -⟩:Bx w _ (shC n k wr0 r D mw (.slice ao la ca)) shZ/\True:=⟨BX.out,trivial⟩
     obtain⟨x0,x1,x2,x3,x4,x5,x6⟩:=hbxx.old;obtain⟨⟨z0,z1,z2,z3,z4,z5,z6⟩,f0,f1,f2,f3,f4,f5,f6⟩:=hbxx.res;clear hbxx;go_wp2_with fail
     go_region_held3 (fun w'=>w'.cell? ⟨w.heap.size,0,none⟩=some (.int .i64 (n:Int))/\w'.cell? ⟨w.heap.size,1,none⟩=some (.int .i64 (k:Int))/\w'.cell? ⟨w.heap.size,2,none⟩=some (.int .i64 (wr0:Int))/\w'.cell? ⟨w.heap.size,3,none⟩=some (.int .i64 (r:Int))/\w'.cell? ⟨w.heap.size,4,none⟩=some (.int .u16 (D:Int))/\w'.cell? ⟨w.heap.size,5,none⟩=some (.int .i64 (mw:Int))/\w'.cell? ⟨w.heap.size,6,none⟩=some (.slice ao la ca)) (first|(with_reducible exact HKK.out)|(with_reducible exact(BX.out.put7 _ _ _ _ _ _ _).old)|(with_reducible exact(BZ.out.put7 _ _ _ _ _ _ _).old)|go_keep)
      (first|(go_at_call 22;(with_reducible refine(CR.out _ (by first|exact BX.out.b|exact BX.out.drew.b|exact(BX.out.put7 _ _ _ _ _ _ _).b|exact(BX.out.put7 _ _ _ _ _ _ _).drew.b)).mono ?_);rintro e w3 ⟨rfl,hb3⟩;(first|(have BZ:=zH (BX.out.below hb3))|(have BZ:=zH (BX.out.drew.below hb3))|(have BZ:=zH ((BX.out.put7 _ _ _ _ _ _ _).below hb3))|(have BZ:=zH ((BX.out.put7 _ _ _ _ _ _ _).drew.below hb3)));have HKK:=zH BZ.out.old;(first|(obtain⟨⟨zz0,zz1,zz2,zz3,zz4,zz5,zz6⟩,ff0,ff1,ff2,ff3,ff4,ff5,ff6⟩:=BZ.out.res)|skip)))
     obtain⟨q0,q1,q2,q3,q4,q5,q6⟩:=zv (BZ.out.put7 (.int .i64 (n:Int)) (.int .i64 (k:Int)) (.int .i64 (wr0:Int)) (.int .i64 (r:Int)) (.int .u16 (D:Int)) (.int .i64 (mw:Int)) (.slice ao la ca)).r;have hbz:=(BZ.out.put7 (.int .i64 (n:Int)) (.int .i64 (k:Int)) (.int .i64 (wr0:Int)) (.int .i64 (r:Int)) (.int .u16 (D:Int)) (.int .i64 (mw:Int)) (.slice ao la ca)).b;unfold put7 at q0 q1 q2 q3 q4 q5 q6 hbz;have HBZ:=zH hbz;clear hbz;go_wp2_with fail
     refine bodyPost_ret (v:=.tuple #[.agg (shC n k wr0 r D mw (.slice ao la ca)),.string (zt 12)]) (by simp[results,Tryz.results11,go_sem,q0,q1,q2,q3,q4,q5,q6];try rfl) rfl ?_;rw[HT0.out];exact⟨rfl,HBZ.out⟩
    |some nv=>
     rw[hnum]at hstep CX;have HD2:=zH hstep.symm;clear hstep hy hc0 hnum;go_wp2_with (first
      |(go_at_call 23;(with_reducible refine(CX.out _).mono ?_);rintro e w9 ⟨rfl,hb9⟩;have HB9:=zH (HB.out.trans (hb9.mono HB.out.size));have HO9:=zH (zi HO.out hb9))
      |(at_builtin;go_must (refine yr rfl (.tmp 85) (.tmp 87) 62 rfl w5.heap.size 3 _ 1 8 Tryz.underlying62 yQ _ acc.length _ (by rfl) HO9.out [.int .i64 (nv:Int)] (by rfl) rfl (by intro u hu;simp at hu;subst hu;rfl) (by unfold maxLen;omega) (by omega) HB9.out.size ?_);intro v6 w6 hown6 hgr6 hb6;have HO6:Hid (w6.ownsRow w5.heap.size 3 1 v6 (acc++[nv]).length ((acc++[nv]).map qU)):=zH (by rw[List.length_append,List.map_append];exact hown6);have HB6:=zH (HB9.out.trans hb6);clear hown6 hgr6 hb6)
      |fail)
     go_roundw
     case rel=>exact⟨j+1,acc++[nv],by go_num,by omega,by rw[List.length_append,List.length_singleton];omega,HD2,HO6,HB6⟩
     case measure=>simp[intOf];omega
  . have em:(j:Int)=1:=by omega
    rw[em];obtain rfl:j=1:=by omega
    clear em;obtain⟨a,rfl⟩:=JC hacc;have hend:=yB (f:=[110]) (ws:=ws) (j:=1) (by rw[HWL.out];exact Nat.le_refl _) [a] ByteArray.empty;rw[HD.out]at hend;subst hend;have hbd:=(zu hF).2.1;have ha:=hbd a (by simp);clear hbd;obtain⟨g,cx,rfl,hg0,hg1,hcell⟩:=zp (n:=1) rfl (by omega) HO.out;have c0:=hcell 0 a rfl;clear hcell HO HD HFD hacc hj hjl;have BX4:=zH (BX5.out.below HB.out);have CK:=zH (JI a g cx wo (hW.below BX4.out.b) c0);unfold jr at CK;have hTT:T=ki a:=HT.out;rw[<-hTT]at CK;unfold Cm.name at CK;clear hTT hF HT;go_wp2_with fail
    (with_reducible refine CK.out.mono ?_);rintro e w6 ⟨rfl,hb6⟩
    have BX:=zH (BX4.out.below hb6);clear hb6 CK BX4 BX5;obtain⟨x0,x1,x2,x3,x4,x5,x6⟩:=BX.out.old;obtain⟨⟨z0,z1,z2,z3,z4,z5,z6⟩,f0,f1,f2,f3,f4,f5,f6⟩:=BX.out.res;obtain⟨q0,q1,q2,q3,q4,q5,q6⟩:=zv (BX.out.put7 (.int .i64 (n:Int)) (.int .i64 (k:Int)) (.int .i64 (wr0:Int)) (.int .i64 (r:Int)) (.int .u16 (D:Int)) (.int .i64 (mw:Int)) (.slice ao la ca)).r;have hbz:=(BX.out.put7 (.int .i64 (n:Int)) (.int .i64 (k:Int)) (.int .i64 (wr0:Int)) (.int .i64 (r:Int)) (.int .u16 (D:Int)) (.int .i64 (mw:Int)) (.slice ao la ca)).b;unfold put7 at q0 q1 q2 q3 q4 q5 q6 hbz;have HBZ:=zH hbz;clear hbz;go_wp2_with fail
    refine bodyPost_ret (v:=.tuple #[.agg (shC n k wr0 r D mw (.slice ao la ca)),.string T]) (by simp[results,Tryz.results11,go_sem,q0,q1,q2,q3,q4,q5,q6];try rfl) rfl ?_;exact⟨rfl,HBZ.out⟩
theorem zdz(n k wr0 r D mw la ca:Nat)(ao:Option Addr)(w:World)(hW:DkW w)(x:ByteArray)(hx:x.size<=4294967296)(ws:List ByteArray)(hws:zL x=Cm.root.name::ws)(hlen:ws.length=Cm.root.form.length)(R:Option (List Nat×ByteArray))(hF:zB Cm.root.form ws=R)(T:ByteArray)(HT:Hid (T=zdy kj R)):
 Calls Tryz.prog 11 #[.agg (shC n k wr0 r D mw (.slice ao la ca)),.string x] w (pN (shC n k wr0 r D mw (.slice ao la ca)) T w):=by
 have hz:∀y∈Cm.root.name::ws,y.size<=9223372036854775807:=fun y hy=>by have:=zN (s:=x) (x:=y) (by rw[hws];exact hy);omega
 have hmf:∀(fn:Fn) (first cap:Array Value) (w:World),(Instr.makeFunc fn first cap).run Tryz.prog w=.ok (.func fn first cap) w:=fun _ _ _ _=>rfl
 have bx0:=Bx.first w (shC n k wr0 r D mw (.slice ao la ca));obtain⟨W1,hW1⟩:∃W1,(w.alloc (.cells (shC n k wr0 r D mw (.slice ao la ca)) 41)).alloc (.cells shZ 41)=W1:=⟨_,rfl⟩
 rw[hW1]at bx0;have CF:=zH (yp x W1 hx);unfold zM at CF;rw[hws]at CF;have CR:=zH fun X (hX:Below w.heap.size w X)=>zx 12 (by omega) (by omega) X (hW.below hX)
 unfold zq at CR;have BX0:=zH bx0;clear bx0;go_enter Tryz.func11,Tryz.ntmps11
 go_wp2_with fail
 (with_reducible refine CF.out.mono ?_);rintro e w2 ⟨A,rfl,hA,hown,hb2⟩
 obtain⟨c0,hIn,hA1,hA2⟩:=yA hz hown;have bx2:=BX0.out.below hb2;obtain⟨nn,hn⟩:∃nn,ws.length=nn:=⟨_,rfl⟩
 rw[hn]at hIn;simp only[List.length_cons,hn];have hn0:nn<=9223372036854775807:=hIn.2.1;have hsl:=yn A nn;have hne:w.heap.size≠w.heap.size+1:=by omega
 have d0:¬((nn:Int)+1=0):=by omega
 have BX2:=zH bx2;have HIN:=zH hIn;have HNN:=zH hn;clear bx2 hb2 hA CF hW1 hn hIn hown hz;go_wp2_with fail
 go_quiet (fail)
 obtain⟨w4,hw4⟩:∃w4,w2.drewN nq=w4:=⟨_,rfl⟩
 rw[hw4];have hb4:Below w2.heap.size w2 w4:=by rw[<-hw4];exact zg (Below.refl _ _) nq
 have BX4:=zH (BX2.out.below hb4);have HI4:=zH (HIN.out.below hb4);have hmm:=@run_makeMap Tryz.prog;obtain⟨v1,v2,v3,v4,v5,v6,v7,v8,v9,v10,v11,v12,Wm,r1,r2,r3,r4,r5,r6,r7,r8,r9,r10,r11,r12,r13,⟨hl1,hl2⟩,hbm⟩:=yW Tryz.underlying61 Tryz.underlying9 Tryz.zeroValue3 w4;have BX:=zH (BX4.out.below hbm);have HI:=zH (HI4.out.below hbm);clear hw4 hb4 hbm BX4 HI4 HIN BX2 BX0 c0 hsl hA1 hA2
 skip
 have hl:=hl1 .root;unfold Cm.many Cm.name at hl;unfold Cm.name;have enn:nn=2:=by have:=HNN.out;rw[hlen]at this;exact this.symm
 subst enn;have ht1:yS 2=1:=rfl;rw[ht1]at HI ⊢;clear hl1 hl2 ht1;have hFD:yd [110,110] ws [] ByteArray.empty=R:=by
  rw[<-hF];unfold zB;rw[if_neg (fun h=>h hlen)];rfl
 have HFD:=zH hFD;have HWL:Hid (ws.length=2):=zH hlen;clear hFD hlen;go_wp2_with fail
 clear r1 r2 r3 r4 r5 r6 r7 r8 r9 r10 r11 r12 r13 hmm hl;obtain⟨w5,rfl⟩:∃w5,w5=Wm:=⟨_,rfl⟩
 have BX5:=BX;have HI5:=HI;clear BX HI;go_loopw [12,72] (fun vx vj wr=>∃(j:Nat) (acc:List Nat),vj=.int .i64 j/\j<=2/\acc.length=j/\Hid (yd (([110,110]:List UInt8).drop j) (ws.drop j) acc ByteArray.empty=R)/\Hid (wr.ownsRow w5.heap.size 3 1 vx acc.length (acc.map qU))/\Hid (Below w5.heap.size w5 wr)) (fun _ vj _=>2-(intOf vj).toNat)
 case atStart=>exact⟨0,[],rfl,by omega,rfl,HFD,zH (World.ownsRow_nil _ _ _ _),zH (Below.refl _ _)⟩
 case round=>
  obtain⟨j,acc,rfl,hj,hacc,HD,HO,HB⟩:=hrel;obtain⟨wo,rfl⟩:∃wo,wo=wr:=⟨_,rfl⟩
  by_cases hjl:j<2
  . have hjw:j<ws.length:=by rw[HWL.out];omega
    have hjf:j<([110,110]:List UInt8).length:=by show j<2;omega
    have hstep:=ye hjf hjw acc ByteArray.empty;rw[if_neg (vL (K:=2) rfl hjl hjf),HD.out]at hstep;obtain⟨y,hy⟩:∃y,ws[j]=y:=⟨_,rfl⟩
    have hym:y∈ws:=by rw[<-hy];exact List.getElem_mem _
    obtain⟨bq,oq,hbo,hc0⟩:=HI5.out.2.2.2 j (.string y) (by rw[List.getElem?_map,List.getElem?_eq_getElem hjw,hy];rfl);cases hbo;have hc:=(HB.out.cell (p:=⟨A,1+j,none⟩) (World.block_lt_of_cell? _ _ hc0)).trans hc0;have hys:=HI5.out.2.2.1 y hym;rw[hy]at hstep;have CX:=zH fun W=>yE y W hys
    unfold qk at CX;have k2:(j:Int)<2:=by omega
    cases hnum:y7 y with
    |none=>
     rw[hnum]at hstep CX;have HT0:Hid (T=zt 12):=zH (by rw[HT.out,hstep];rfl);clear hstep hy hc0 hnum;go_wp2_with (go_at_call 23;(with_reducible refine(CX.out _).mono ?_);rintro e w9 ⟨rfl,hb9⟩)
     have BX:=zH ((BX5.out.below HB.out).below hb9);clear hb9 CX hc HD HO HB HI5 BX5 HFD HWL hym hys hjw hjf hacc hjl hj k2 HNN d0 hn0 hmf;obtain⟨hbxx, -⟩:Bx w _ (shC n k wr0 r D mw (.slice ao la ca)) shZ/\True:=⟨BX.out,trivial⟩
     obtain⟨x0,x1,x2,x3,x4,x5,x6⟩:=hbxx.old;obtain⟨⟨z0,z1,z2,z3,z4,z5,z6⟩,f0,f1,f2,f3,f4,f5,f6⟩:=hbxx.res;clear hbxx;go_wp2_with fail
     go_region_held3 (fun w'=>w'.cell? ⟨w.heap.size,0,none⟩=some (.int .i64 (n:Int))/\w'.cell? ⟨w.heap.size,1,none⟩=some (.int .i64 (k:Int))/\w'.cell? ⟨w.heap.size,2,none⟩=some (.int .i64 (wr0:Int))/\w'.cell? ⟨w.heap.size,3,none⟩=some (.int .i64 (r:Int))/\w'.cell? ⟨w.heap.size,4,none⟩=some (.int .u16 (D:Int))/\w'.cell? ⟨w.heap.size,5,none⟩=some (.int .i64 (mw:Int))/\w'.cell? ⟨w.heap.size,6,none⟩=some (.slice ao la ca)) (first|(with_reducible exact HKK.out)|(with_reducible exact(BX.out.put7 _ _ _ _ _ _ _).old)|(with_reducible exact(BZ.out.put7 _ _ _ _ _ _ _).old)|go_keep)
      (first|(go_at_call 22;(with_reducible refine(CR.out _ (by first|exact BX.out.b|exact BX.out.drew.b|exact(BX.out.put7 _ _ _ _ _ _ _).b|exact(BX.out.put7 _ _ _ _ _ _ _).drew.b)).mono ?_);rintro e w3 ⟨rfl,hb3⟩;(first|(have BZ:=zH (BX.out.below hb3))|(have BZ:=zH (BX.out.drew.below hb3))|(have BZ:=zH ((BX.out.put7 _ _ _ _ _ _ _).below hb3))|(have BZ:=zH ((BX.out.put7 _ _ _ _ _ _ _).drew.below hb3)));have HKK:=zH BZ.out.old;(first|(obtain⟨⟨zz0,zz1,zz2,zz3,zz4,zz5,zz6⟩,ff0,ff1,ff2,ff3,ff4,ff5,ff6⟩:=BZ.out.res)|skip)))
     obtain⟨q0,q1,q2,q3,q4,q5,q6⟩:=zv (BZ.out.put7 (.int .i64 (n:Int)) (.int .i64 (k:Int)) (.int .i64 (wr0:Int)) (.int .i64 (r:Int)) (.int .u16 (D:Int)) (.int .i64 (mw:Int)) (.slice ao la ca)).r;have hbz:=(BZ.out.put7 (.int .i64 (n:Int)) (.int .i64 (k:Int)) (.int .i64 (wr0:Int)) (.int .i64 (r:Int)) (.int .u16 (D:Int)) (.int .i64 (mw:Int)) (.slice ao la ca)).b;unfold put7 at q0 q1 q2 q3 q4 q5 q6 hbz;have HBZ:=zH hbz;clear hbz;go_wp2_with fail
     refine bodyPost_ret (v:=.tuple #[.agg (shC n k wr0 r D mw (.slice ao la ca)),.string (zt 12)]) (by simp[results,Tryz.results11,go_sem,q0,q1,q2,q3,q4,q5,q6];try rfl) rfl ?_;rw[HT0.out];exact⟨rfl,HBZ.out⟩
    |some nv=>
     rw[hnum]at hstep CX;have HD2:=zH hstep.symm;clear hstep hy hc0 hnum;go_wp2_with (first
      |(go_at_call 23;(with_reducible refine(CX.out _).mono ?_);rintro e w9 ⟨rfl,hb9⟩;have HB9:=zH (HB.out.trans (hb9.mono HB.out.size));have HO9:=zH (zi HO.out hb9))
      |(at_builtin;go_must (refine yr rfl (.tmp 85) (.tmp 87) 62 rfl w5.heap.size 3 _ 1 8 Tryz.underlying62 yQ _ acc.length _ (by rfl) HO9.out [.int .i64 (nv:Int)] (by rfl) rfl (by intro u hu;simp at hu;subst hu;rfl) (by unfold maxLen;omega) (by omega) HB9.out.size ?_);intro v6 w6 hown6 hgr6 hb6;have HO6:Hid (w6.ownsRow w5.heap.size 3 1 v6 (acc++[nv]).length ((acc++[nv]).map qU)):=zH (by rw[List.length_append,List.map_append];exact hown6);have HB6:=zH (HB9.out.trans hb6);clear hown6 hgr6 hb6)
      |fail)
     go_roundw
     case rel=>exact⟨j+1,acc++[nv],by go_num,by omega,by rw[List.length_append,List.length_singleton];omega,HD2,HO6,HB6⟩
     case measure=>simp[intOf];omega
  . have em:(j:Int)=2:=by omega
    rw[em];obtain rfl:j=2:=by omega
    clear em;obtain⟨a,b,rfl⟩:=zeL hacc;have hend:=yB (f:=[110,110]) (ws:=ws) (j:=2) (by rw[HWL.out];exact Nat.le_refl _) [a,b] ByteArray.empty;rw[HD.out]at hend;subst hend;have hbd:=(zu hF).2.1;have ha:=hbd a (by simp);have hb:=hbd b (by simp);clear hbd;obtain⟨g,cx,rfl,hg0,hg1,hcell⟩:=zp (n:=2) rfl (by omega) HO.out;have c0:=hcell 0 a rfl;have c1:=hcell 1 b rfl;clear hcell HO HD HFD hacc hj hjl;have BX4:=zH (BX5.out.below HB.out);have CK:=zH (zcg a b ha g cx wo (hW.below BX4.out.b) c0 c1);unfold jr at CK;have hTT:T=kj a b:=HT.out;rw[<-hTT]at CK;unfold Cm.name at CK;clear hTT hF HT;go_wp2_with fail
    (with_reducible refine CK.out.mono ?_);rintro e w6 ⟨rfl,hb6⟩
    have BX:=zH (BX4.out.below hb6);clear hb6 CK BX4 BX5;obtain⟨x0,x1,x2,x3,x4,x5,x6⟩:=BX.out.old;obtain⟨⟨z0,z1,z2,z3,z4,z5,z6⟩,f0,f1,f2,f3,f4,f5,f6⟩:=BX.out.res;obtain⟨q0,q1,q2,q3,q4,q5,q6⟩:=zv (BX.out.put7 (.int .i64 (n:Int)) (.int .i64 (k:Int)) (.int .i64 (wr0:Int)) (.int .i64 (r:Int)) (.int .u16 (D:Int)) (.int .i64 (mw:Int)) (.slice ao la ca)).r;have hbz:=(BX.out.put7 (.int .i64 (n:Int)) (.int .i64 (k:Int)) (.int .i64 (wr0:Int)) (.int .i64 (r:Int)) (.int .u16 (D:Int)) (.int .i64 (mw:Int)) (.slice ao la ca)).b;unfold put7 at q0 q1 q2 q3 q4 q5 q6 hbz;have HBZ:=zH hbz;clear hbz;go_wp2_with fail
    refine bodyPost_ret (v:=.tuple #[.agg (shC n k wr0 r D mw (.slice ao la ca)),.string T]) (by simp[results,Tryz.results11,go_sem,q0,q1,q2,q3,q4,q5,q6];try rfl) rfl ?_;exact⟨rfl,HBZ.out⟩
theorem zdA(n k wr0 r D mw la ca:Nat)(ao:Option Addr)(w:World)(hW:DkW w)(x:ByteArray)(hx:x.size<=4294967296)(ws:List ByteArray)(hws:zL x=Cm.code.name::ws)(hlen:ws.length=Cm.code.form.length)(R:Option (List Nat×ByteArray))(hF:zB Cm.code.form ws=R)(T:ByteArray)(HT:Hid (T=zdy (fun a _=>po a) R)):
 Calls Tryz.prog 11 #[.agg (shC n k wr0 r D mw (.slice ao la ca)),.string x] w (pN (shC n k wr0 r D mw (.slice ao la ca)) T w):=by
 have hz:∀y∈Cm.code.name::ws,y.size<=9223372036854775807:=fun y hy=>by have:=zN (s:=x) (x:=y) (by rw[hws];exact hy);omega
 have hmf:∀(fn:Fn) (first cap:Array Value) (w:World),(Instr.makeFunc fn first cap).run Tryz.prog w=.ok (.func fn first cap) w:=fun _ _ _ _=>rfl
 have bx0:=Bx.first w (shC n k wr0 r D mw (.slice ao la ca));obtain⟨W1,hW1⟩:∃W1,(w.alloc (.cells (shC n k wr0 r D mw (.slice ao la ca)) 41)).alloc (.cells shZ 41)=W1:=⟨_,rfl⟩
 rw[hW1]at bx0;have CF:=zH (yp x W1 hx);unfold zM at CF;rw[hws]at CF;have CR:=zH fun X (hX:Below w.heap.size w X)=>zx 12 (by omega) (by omega) X (hW.below hX)
 unfold zq at CR;have BX0:=zH bx0;clear bx0;go_enter Tryz.func11,Tryz.ntmps11
 go_wp2_with fail
 (with_reducible refine CF.out.mono ?_);rintro e w2 ⟨A,rfl,hA,hown,hb2⟩
 obtain⟨c0,hIn,hA1,hA2⟩:=yA hz hown;have bx2:=BX0.out.below hb2;obtain⟨nn,hn⟩:∃nn,ws.length=nn:=⟨_,rfl⟩
 rw[hn]at hIn;simp only[List.length_cons,hn];have hn0:nn<=9223372036854775807:=hIn.2.1;have hsl:=yn A nn;have hne:w.heap.size≠w.heap.size+1:=by omega
 have d0:¬((nn:Int)+1=0):=by omega
 have BX2:=zH bx2;have HIN:=zH hIn;have HNN:=zH hn;clear bx2 hb2 hA CF hW1 hn hIn hown hz;go_wp2_with fail
 go_quiet (fail)
 obtain⟨w4,hw4⟩:∃w4,w2.drewN nq=w4:=⟨_,rfl⟩
 rw[hw4];have hb4:Below w2.heap.size w2 w4:=by rw[<-hw4];exact zg (Below.refl _ _) nq
 have BX4:=zH (BX2.out.below hb4);have HI4:=zH (HIN.out.below hb4);have hmm:=@run_makeMap Tryz.prog;obtain⟨v1,v2,v3,v4,v5,v6,v7,v8,v9,v10,v11,v12,Wm,r1,r2,r3,r4,r5,r6,r7,r8,r9,r10,r11,r12,r13,⟨hl1,hl2⟩,hbm⟩:=yW Tryz.underlying61 Tryz.underlying9 Tryz.zeroValue3 w4;have BX:=zH (BX4.out.below hbm);have HI:=zH (HI4.out.below hbm);clear hw4 hb4 hbm BX4 HI4 HIN BX2 BX0 c0 hsl hA1 hA2
 skip
 have hl:=hl1 .code;unfold Cm.many Cm.name at hl;unfold Cm.name;have enn:nn=1:=by have:=HNN.out;rw[hlen]at this;exact this.symm
 subst enn;have ht1:yS 1=1:=rfl;rw[ht1]at HI ⊢;clear hl1 hl2 ht1;have hFD:yd [110] ws [] ByteArray.empty=R:=by
  rw[<-hF];unfold zB;rw[if_neg (fun h=>h hlen)];rfl
 have HFD:=zH hFD;have HWL:Hid (ws.length=1):=zH hlen;clear hFD hlen;go_wp2_with fail
 clear r1 r2 r3 r4 r5 r6 r7 r8 r9 r10 r11 r12 r13 hmm hl;obtain⟨w5,rfl⟩:∃w5,w5=Wm:=⟨_,rfl⟩
 have BX5:=BX;have HI5:=HI;clear BX HI;go_loopw [12,72] (fun vx vj wr=>∃(j:Nat) (acc:List Nat),vj=.int .i64 j/\j<=1/\acc.length=j/\Hid (yd (([110]:List UInt8).drop j) (ws.drop j) acc ByteArray.empty=R)/\Hid (wr.ownsRow w5.heap.size 3 1 vx acc.length (acc.map qU))/\Hid (Below w5.heap.size w5 wr)) (fun _ vj _=>1-(intOf vj).toNat)
 case atStart=>exact⟨0,[],rfl,by omega,rfl,HFD,zH (World.ownsRow_nil _ _ _ _),zH (Below.refl _ _)⟩
 case round=>
  obtain⟨j,acc,rfl,hj,hacc,HD,HO,HB⟩:=hrel;obtain⟨wo,rfl⟩:∃wo,wo=wr:=⟨_,rfl⟩
  by_cases hjl:j<1
  . have hjw:j<ws.length:=by rw[HWL.out];omega
    have hjf:j<([110]:List UInt8).length:=by show j<1;omega
    have hstep:=ye hjf hjw acc ByteArray.empty;rw[if_neg (vL (K:=1) rfl hjl hjf),HD.out]at hstep;obtain⟨y,hy⟩:∃y,ws[j]=y:=⟨_,rfl⟩
    have hym:y∈ws:=by rw[<-hy];exact List.getElem_mem _
    obtain⟨bq,oq,hbo,hc0⟩:=HI5.out.2.2.2 j (.string y) (by rw[List.getElem?_map,List.getElem?_eq_getElem hjw,hy];rfl);cases hbo;have hc:=(HB.out.cell (p:=⟨A,1+j,none⟩) (World.block_lt_of_cell? _ _ hc0)).trans hc0;have hys:=HI5.out.2.2.1 y hym;rw[hy]at hstep;have CX:=zH fun W=>yE y W hys
    unfold qk at CX;have k2:(j:Int)<1:=by omega
    cases hnum:y7 y with
    |none=>
     rw[hnum]at hstep CX;have HT0:Hid (T=zt 12):=zH (by rw[HT.out,hstep];rfl);clear hstep hy hc0 hnum;go_wp2_with (go_at_call 23;(with_reducible refine(CX.out _).mono ?_);rintro e w9 ⟨rfl,hb9⟩)
     have BX:=zH ((BX5.out.below HB.out).below hb9);clear hb9 CX hc HD HO HB HI5 BX5 HFD HWL hym hys hjw hjf hacc hjl hj k2 HNN d0 hn0 hmf;obtain⟨hbxx, -⟩:Bx w _ (shC n k wr0 r D mw (.slice ao la ca)) shZ/\True:=⟨BX.out,trivial⟩
     obtain⟨x0,x1,x2,x3,x4,x5,x6⟩:=hbxx.old;obtain⟨⟨z0,z1,z2,z3,z4,z5,z6⟩,f0,f1,f2,f3,f4,f5,f6⟩:=hbxx.res;clear hbxx;go_wp2_with fail
     go_region_held3 (fun w'=>w'.cell? ⟨w.heap.size,0,none⟩=some (.int .i64 (n:Int))/\w'.cell? ⟨w.heap.size,1,none⟩=some (.int .i64 (k:Int))/\w'.cell? ⟨w.heap.size,2,none⟩=some (.int .i64 (wr0:Int))/\w'.cell? ⟨w.heap.size,3,none⟩=some (.int .i64 (r:Int))/\w'.cell? ⟨w.heap.size,4,none⟩=some (.int .u16 (D:Int))/\w'.cell? ⟨w.heap.size,5,none⟩=some (.int .i64 (mw:Int))/\w'.cell? ⟨w.heap.size,6,none⟩=some (.slice ao la ca)) (first|(with_reducible exact HKK.out)|(with_reducible exact(BX.out.put7 _ _ _ _ _ _ _).old)|(with_reducible exact(BZ.out.put7 _ _ _ _ _ _ _).old)|go_keep)
      (first|(go_at_call 22;(with_reducible refine(CR.out _ (by first|exact BX.out.b|exact BX.out.drew.b|exact(BX.out.put7 _ _ _ _ _ _ _).b|exact(BX.out.put7 _ _ _ _ _ _ _).drew.b)).mono ?_);rintro e w3 ⟨rfl,hb3⟩;(first|(have BZ:=zH (BX.out.below hb3))|(have BZ:=zH (BX.out.drew.below hb3))|(have BZ:=zH ((BX.out.put7 _ _ _ _ _ _ _).below hb3))|(have BZ:=zH ((BX.out.put7 _ _ _ _ _ _ _).drew.below hb3)));have HKK:=zH BZ.out.old;(first|(obtain⟨⟨zz0,zz1,zz2,zz3,zz4,zz5,zz6⟩,ff0,ff1,ff2,ff3,ff4,ff5,ff6⟩:=BZ.out.res)|skip)))
     obtain⟨q0,q1,q2,q3,q4,q5,q6⟩:=zv (BZ.out.put7 (.int .i64 (n:Int)) (.int .i64 (k:Int)) (.int .i64 (wr0:Int)) (.int .i64 (r:Int)) (.int .u16 (D:Int)) (.int .i64 (mw:Int)) (.slice ao la ca)).r;have hbz:=(BZ.out.put7 (.int .i64 (n:Int)) (.int .i64 (k:Int)) (.int .i64 (wr0:Int)) (.int .i64 (r:Int)) (.int .u16 (D:Int)) (.int .i64 (mw:Int)) (.slice ao la ca)).b;unfold put7 at q0 q1 q2 q3 q4 q5 q6 hbz;have HBZ:=zH hbz;clear hbz;go_wp2_with fail
     refine bodyPost_ret (v:=.tuple #[.agg (shC n k wr0 r D mw (.slice ao la ca)),.string (zt 12)]) (by simp[results,Tryz.results11,go_sem,q0,q1,q2,q3,q4,q5,q6];try rfl) rfl ?_;rw[HT0.out];exact⟨rfl,HBZ.out⟩
    |some nv=>
     rw[hnum]at hstep CX;have HD2:=zH hstep.symm;clear hstep hy hc0 hnum;go_wp2_with (first
      |(go_at_call 23;(with_reducible refine(CX.out _).mono ?_);rintro e w9 ⟨rfl,hb9⟩;have HB9:=zH (HB.out.trans (hb9.mono HB.out.size));have HO9:=zH (zi HO.out hb9))
      |(at_builtin;go_must (refine yr rfl (.tmp 85) (.tmp 87) 62 rfl w5.heap.size 3 _ 1 8 Tryz.underlying62 yQ _ acc.length _ (by rfl) HO9.out [.int .i64 (nv:Int)] (by rfl) rfl (by intro u hu;simp at hu;subst hu;rfl) (by unfold maxLen;omega) (by omega) HB9.out.size ?_);intro v6 w6 hown6 hgr6 hb6;have HO6:Hid (w6.ownsRow w5.heap.size 3 1 v6 (acc++[nv]).length ((acc++[nv]).map qU)):=zH (by rw[List.length_append,List.map_append];exact hown6);have HB6:=zH (HB9.out.trans hb6);clear hown6 hgr6 hb6)
      |fail)
     go_roundw
     case rel=>exact⟨j+1,acc++[nv],by go_num,by omega,by rw[List.length_append,List.length_singleton];omega,HD2,HO6,HB6⟩
     case measure=>simp[intOf];omega
  . have em:(j:Int)=1:=by omega
    rw[em];obtain rfl:j=1:=by omega
    clear em;obtain⟨a,rfl⟩:=JC hacc;have hend:=yB (f:=[110]) (ws:=ws) (j:=1) (by rw[HWL.out];exact Nat.le_refl _) [a] ByteArray.empty;rw[HD.out]at hend;subst hend;have hbd:=(zu hF).2.1;have ha:=hbd a (by simp);clear hbd;obtain⟨g,cx,rfl,hg0,hg1,hcell⟩:=zp (n:=1) rfl (by omega) HO.out;have c0:=hcell 0 a rfl;clear hcell HO HD HFD hacc hj hjl;have BX4:=zH (BX5.out.below HB.out);have CK:=zH (zch a g cx wo (hW.below BX4.out.b) c0);unfold jr at CK;have hTT:T=po a:=HT.out;rw[<-hTT]at CK;unfold Cm.name at CK;clear hTT hF HT;go_wp2_with fail
    (with_reducible refine CK.out.mono ?_);rintro e w6 ⟨rfl,hb6⟩
    have BX:=zH (BX4.out.below hb6);clear hb6 CK BX4 BX5;obtain⟨x0,x1,x2,x3,x4,x5,x6⟩:=BX.out.old;obtain⟨⟨z0,z1,z2,z3,z4,z5,z6⟩,f0,f1,f2,f3,f4,f5,f6⟩:=BX.out.res;obtain⟨q0,q1,q2,q3,q4,q5,q6⟩:=zv (BX.out.put7 (.int .i64 (n:Int)) (.int .i64 (k:Int)) (.int .i64 (wr0:Int)) (.int .i64 (r:Int)) (.int .u16 (D:Int)) (.int .i64 (mw:Int)) (.slice ao la ca)).r;have hbz:=(BX.out.put7 (.int .i64 (n:Int)) (.int .i64 (k:Int)) (.int .i64 (wr0:Int)) (.int .i64 (r:Int)) (.int .u16 (D:Int)) (.int .i64 (mw:Int)) (.slice ao la ca)).b;unfold put7 at q0 q1 q2 q3 q4 q5 q6 hbz;have HBZ:=zH hbz;clear hbz;go_wp2_with fail
    refine bodyPost_ret (v:=.tuple #[.agg (shC n k wr0 r D mw (.slice ao la ca)),.string T]) (by simp[results,Tryz.results11,go_sem,q0,q1,q2,q3,q4,q5,q6];try rfl) rfl ?_;exact⟨rfl,HBZ.out⟩
end Go.Proofs.YtmgfbmkfomebcaaGreatDoor
