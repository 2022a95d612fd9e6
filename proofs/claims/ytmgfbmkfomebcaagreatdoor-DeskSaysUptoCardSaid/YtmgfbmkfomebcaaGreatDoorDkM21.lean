/- slices.Index and slices.Contains at what is kept. -/
import Derived.Test.YtmgfbmkfomebcaaGreatDoorDkM16
import Derived.Test.YtmgfbmkfomebcaaGreatDoorDkM20xStore3
set_option linter.unusedVariables false
set_option linter.unusedSimpArgs false
set_option maxRecDepth 100000
set_option maxHeartbeats 8000000
namespace Go.Proofs.YtmgfbmkfomebcaaGreatDoor
open Go.RowKit
theorem zdR{l:List Kp}{a:Nat}{p:ByteArray}{k:Nat}{x:Kp}(h:l[k]?=some x)(h1:x.1=a)(h2:x.2.toList=p.toList):Qx l a p=true:=by
 unfold Qx;rw[List.any_eq_true];exact⟨x,List.mem_of_getElem? h,by simp[h1,h2]⟩
theorem ze8{l:List Kp}{a:Nat}{p:ByteArray}(h:∀(i:Nat) (y:Kp),l[i]?=some y->¬(y.1=a/\y.2.toList=p.toList)):Qx l a p=false:=by
 unfold Qx;rw[List.any_eq_false];intro x hx hc;obtain⟨i,hi⟩:=List.getElem?_of_mem hx;apply h i x hi;simpa using hc
def zbB(B:Bool)(w:World)(e:Ending)(w':World):Prop:=∃r:Int,e=.returned (.int .i64 r)/\decide (0<=r)=B/\Below w.heap.size w w'
theorem zdS(l:List Kp)(n a:Nat)(p:ByteArray)(ao:Option Addr)(cap:Nat)(w:World)(hl:l.length=n)(hn:n<=9223372036854775807)(hR:Hid (Reads w ao (zw l))):
 Calls Tryz.prog 118 #[.slice ao n cap,.agg #[.int .i64 (a:Int),.int .i64 0,.string p]] w (zbB (Qx l a p) w):=by
 have HL:=zH hl;obtain⟨W1,hW1⟩:∃W1,w.alloc (.cells #[.int .i64 (a:Int),.int .i64 0,.string p] 106)=W1:=⟨_,rfl⟩
 have hb1:Below w.heap.size w W1:=by rw[<-hW1];exact zc _ _
 have c0:W1.cell? ⟨w.heap.size,0,none⟩=some (.int .i64 (a:Int)):=by rw[<-hW1];simp[World.cell?_alloc_new]
 have c1:W1.cell? ⟨w.heap.size,1,none⟩=some (.int .i64 0):=by rw[<-hW1];simp[World.cell?_alloc_new]
 have c2:W1.cell? ⟨w.heap.size,2,none⟩=some (.string p):=by rw[<-hW1];simp[World.cell?_alloc_new]
 have HB1:=zH hb1;clear hl hb1;go_enter Tryz.func118,Tryz.ntmps118
 go_wp2_with fail
 clear hW1;go_loopw [8] (fun vi wr=>∃k:Nat,vi=.int .i64 k/\k<=n/\Hid (∀(i:Nat) (y:Kp),i<k->l[i]?=some y->¬(y.1=a/\y.2.toList=p.toList))/\∃q,wr=W1.drewN q) (fun vi _=>n-(intOf vi).toNat)
 case atStart=>exact⟨0,rfl,by omega,zH (by intro j y hj;omega),0,rfl⟩
 case round=>
  obtain⟨k,rfl,hk,hno,q,rfl⟩:=hrel;by_cases hkl:k<n
  . obtain⟨b,o,rfl,x0,x1,x2⟩:=y9 (hR.out.below HB1.out) (k:=k) (by rw[HL.out];exact hkl);obtain⟨x,hx⟩:∃x,l[k]'(by rw[HL.out];exact hkl)=x:=⟨_,rfl⟩
    have HX:Hid (l[k]?=some x):=zH (by rw[List.getElem?_eq_getElem (by rw[HL.out];exact hkl),hx]);rw[hx]at x0 x2;obtain⟨y,s⟩:=x;have i0:(0:Int)<=(k:Int):=by omega
    have i1:(k:Int)<(n:Int):=by omega
    clear hx;by_cases h1:y=a
    . have d1:((a:Int)==(y:Int))=true:=by simp;omega
      by_cases h2:s.toList=p.toList
      . have d2:(p.toList==s.toList)=true:=by simp[h2]
        have HY:=zH (zdR HX.out h1 h2);clear h1 h2;go_wp2_with fail
        go_quiet (fail)
        go_wp2_with fail
        go_ret
        exact⟨_,rfl,by rw[HY.out];simp,zg (zg HB1.out q) _⟩
      . have d2:(p.toList==s.toList)=false:=by rw[beq_eq_false_iff_ne];exact fun e=>h2 e.symm
        have H2:Hid (¬(y=a/\s.toList=p.toList)):=zH (fun e=>h2 e.2);clear h1 h2;go_wp2_with fail
        go_quiet (fail)
        go_wp2_with fail
        go_roundw
        case rel=>exact⟨k+1,by go_num,by omega,zH (by
         intro i z hi hz;by_cases he:i=k
         . subst he;rw[HX.out]at hz;cases hz;exact H2.out
         . exact hno.out i z (by omega) hz),by first|exact⟨_,rfl⟩|exact dr2 _ _ _⟩
        case measure=>simp[intOf];omega
    . have d1:((a:Int)==(y:Int))=false:=by simp;omega
      have H2:Hid (¬(y=a/\s.toList=p.toList)):=zH (fun e=>h1 e.1);obtain⟨d2,hd2⟩:∃d2,(p.toList==s.toList)=d2:=⟨_,rfl⟩
      clear h1;go_wp2_with fail
      go_quiet (fail)
      go_wp2_with fail
      go_roundw
      case rel=>exact⟨k+1,by go_num,by omega,zH (by
       intro i z hi hz;by_cases he:i=k
       . subst he;rw[HX.out]at hz;cases hz;exact H2.out
       . exact hno.out i z (by omega) hz),by first|exact⟨_,rfl⟩|exact dr2 _ _ _⟩
      case measure=>simp[intOf];omega
  . obtain rfl:n=k:=by omega
    go_wp2_with fail
    go_ret
    have hall:Qx l a p=false:=ze8 fun i y hi=>hno.out i y (by have:=(List.getElem?_eq_some_iff.1 hi).1;have:=HL.out;omega) hi
    exact⟨_,rfl,by rw[hall];simp,zg HB1.out q⟩
def Xp(b:Bool)(w:World)(e:Ending)(w':World):Prop:=e=.returned (.bool b)/\Below w.heap.size w w'
theorem pP(l:List Kp)(n a:Nat)(p:ByteArray)(ao:Option Addr)(cap:Nat)(w:World)(hl:l.length=n)(hn:n<=9223372036854775807)(hR:Hid (Reads w ao (zw l))):
 Calls Tryz.prog 81 #[.slice ao n cap,.agg #[.int .i64 (a:Int),.int .i64 0,.string p]] w (Xp (Qx l a p) w):=by
 obtain⟨W1,hW1⟩:∃W1,w.alloc (.cells #[.int .i64 (a:Int),.int .i64 0,.string p] 106)=W1:=⟨_,rfl⟩
 have hb1:Below w.heap.size w W1:=by rw[<-hW1];exact zc _ _
 have c0:W1.cell? ⟨w.heap.size,0,none⟩=some (.int .i64 (a:Int)):=by rw[<-hW1];simp[World.cell?_alloc_new]
 have c1:W1.cell? ⟨w.heap.size,1,none⟩=some (.int .i64 0):=by rw[<-hW1];simp[World.cell?_alloc_new]
 have c2:W1.cell? ⟨w.heap.size,2,none⟩=some (.string p):=by rw[<-hW1];simp[World.cell?_alloc_new]
 have C:=zH (zdS l n a p ao cap W1 hl hn (zH (hR.out.below hb1)));unfold zbB at C;have HB1:=zH hb1;clear hl hb1;obtain⟨B,hB⟩:∃B,Qx l a p=B:=⟨_,rfl⟩
 rw[hB]at C ⊢;clear hB;go_enter Tryz.func81,Tryz.ntmps81
 go_wp2_with fail
 (with_reducible refine C.out.mono ?_)
 rintro e w2 ⟨r,rfl,hr,hb⟩;have HB2:=zH (HB1.out.trans (hb.mono HB1.out.size));have HRR:=zH hr;clear hb hr C;go_wp2_with fail
 go_ret
 exact⟨qi HRR.out,HB2.out⟩
theorem Yw{w w':World}(h:Below w.heap.size w w')(r:Option Nat):w.grownBy w' r:=⟨h.os,h.tape,h.output,h.size,fun k hk _=>h.block k hk⟩
def Yx(base:Nat)(Av:Nat->Prop)(n k wr r b nb:Nat)(R:St×Tl×Nat)(w:World)(e:Ending)(w':World):Prop:=
 e=.returned (.tuple #[.agg #[.string R.2.1.tx,.int .i64 (R.2.1.at':Int),.int .i64 0,.int .i64 0],.int .i64 (R.2.1.mn:Nat),.int .i64 (R.2.2:Nat)])/\(∃V',Shf w' base Av n k wr r b nb V' R.1)/\Kept Av base w w'
theorem Kh{a k key:Nat}{text:ByteArray}(hs:text.size<=60)(hk:1<=k)(ha:1<=a):∀(U:List Nat) (P:St×Nat),Okst P.1->a<=P.1.wr->Okst (U.foldl (qw k text a key) P).1/\(U.foldl (qw k text a key) P).1.wr=P.1.wr/\(U.foldl (qw k text a key) P).2<=P.2+U.length
 |[],P,h,_=>⟨h,rfl,by simp⟩
 |i::t,P,h,h2=>by
  have h3:=Kh (key:=key) hs hk ha t (qw k text a key P i) (h.fix i key a ha h2 (kM _ _ _ hs hk)) h2;refine⟨h3.1,h3.2.1,Nat.le_trans h3.2.2 ?_⟩;show P.2+(if _ then 0 else 1)+t.length<=P.2+(t.length+1)
  split<;>omega
theorem zc6{l:List Kp}{q:Nat}{x:Kp}(a:Nat)(h:l[q]?=some x):(l.take (q+1)).filter (fun x=>decide (a<x.1))=(l.take q).filter (fun x=>decide (a<x.1))++if a<x.1 then[x] else[]:=by
 obtain⟨hq,he⟩:=List.getElem?_eq_some_iff.1 h;rw[List.take_succ_eq_append_getElem hq,he,List.filter_append];by_cases hx:a<x.1
 . rw[if_pos hx];simp[hx]
 . rw[if_neg hx];simp[hx]
theorem Vp{n k:Nat}{st:St}{key:Nat}(hok:Okst st)(h:(newest n k st key).2.2=true):1<=(newest n k st key).1/\(newest n k st key).1<=st.wr:=by
 obtain⟨i,x,_,hx,he⟩:=Vz h;rw[<-he];exact⟨(hok.rng i key x hx).1,(hok.rng i key x hx).2.1⟩
theorem Yy{w:World}{base:Nat}{Av:Nat->Prop}{n k wr0 r b nb:Nat}{V:Nat->Nat->Value}{st:St}(key:Nat)(hkey:key<3)(hk1:1<=k)(hkn:k<=n)(hn:n<=10)(h:Shf w base Av n k wr0 r b nb V st):
 Calls Tryz.prog 95 #[.pointer (some ⟨b,0,none⟩),.int .i64 (key:Int)] w (Yx base Av n k wr0 r b nb (yI n k wr0 r st key) w):=by
 obtain⟨W1,hW1⟩:∃W1,w.alloc (.cells #[.string ⟨#[]⟩,.int .i64 0,.int .i64 0,.int .i64 0] 70)=W1:=⟨_,rfl⟩
 have hb1:Below w.heap.size w W1:=by rw[<-hW1];exact zc _ _
 have hr1:W1.heap[w.heap.size]?=some (.cells #[.string ⟨#[]⟩,.int .i64 0,.int .i64 0,.int .i64 0] 70 (0,0)):=by rw[<-hW1];exact heap_alloc_new w _
 have hsz1:W1.heap.size=w.heap.size+1:=by rw[<-hW1];simp
 have HS:=zH h;have HS1:=zH (h.below hb1);have CU:=zH (pj hn HS1.out);unfold kr at CU;have HB1:=zH hb1;have HR1:=zH hr1;have HZ1:=zH hsz1;have HUM:Hid (∀i,i∈ups n st->i<n):=zH fun i hi=>(vP.1 hi).1
 have hul:=kz n st;obtain⟨U,hU⟩:∃U,ups n st=U:=⟨_,rfl⟩
 rw[hU]at CU HUM hul;obtain⟨u,hu⟩:∃u,U.length=u:=⟨_,rfl⟩
 rw[hu]at CU hul;have HU:=zH hU;have HUL:=zH hu;have HAV:Hid (∀g,Av g->g≠w.heap.size):=zH fun g hg=>by have:=h.avlt g hg;omega
 have HBS:Hid (base<=w.heap.size):=zH (by have:=h.hb;have:=h.blt;omega);clear h hb1 hr1 hsz1 hU hu;go_enter Tryz.func95,Tryz.ntmps95
 go_wp2_with fail
 (with_reducible refine CU.out.mono ?_)
 clear hW1;rintro e w2 ⟨ao2,cap2,rfl,hown2,hb2⟩;have HB2:Hid (Below w.heap.size w w2):=zH (HB1.out.trans (hb2.mono HB1.out.size));have HR2:=zH ((hb2.block w.heap.size (by rw[HZ1.out];omega)).trans HR1.out);have HZ2:Hid (w.heap.size<w2.heap.size):=zH (by have:=hb2.size;have:=HZ1.out;omega);have hS2:=HS.out.below HB2.out;have c2:=hS2.cells.2.2.1;have c3:=hS2.cells.2.2.2.1;have HS2:=zH hS2;have HOU:=zH hown2;clear CU hown2 hb2 hS2;by_cases g0:u<r\/u<wr0
 . have hF:Hid (yI n k wr0 r st key=(st,Tl.no,9)):=zH (by unfold yI;rw[HU.out,HUL.out,if_pos g0]);obtain⟨r0,r1,r2',r3⟩:=zc4 HR2.out;obtain⟨f0,f1,f2,f3⟩:=zf4 HR2.out;obtain⟨tc0,tc1,tc2,tc3⟩:=yg HR2.out (.string ⟨#[]⟩) (.int .i64 0) (.int .i64 0) (.int .i64 0);have HD:=zH (Qm (HS.out.wide HB2.out) (HS.out.kept HB2.out) (fun x hx=>WideA.old hx) (WideA.new (Nat.le_refl _) HZ2.out) HAV.out HBS.out (.string ⟨#[]⟩) (.int .i64 0) (.int .i64 0) (.int .i64 0));by_cases g1:u<r
   . have d1:decide (u<r)=true:=decide_eq_true g1;have d1':decide ((u:Int)<(r:Int))=true:=decide_eq_true (by omega);clear g0 g1;go_wp2_with fail
     refine bodyPost_ret (v:=.tuple #[.agg #[.string ⟨#[]⟩,.int .i64 0,.int .i64 0,.int .i64 0],.int .i64 0,.int .i64 9]) (by simp[results,Tryz.results95,go_sem,tc0,tc1,tc2,tc3];try rfl) rfl ?_;rw[hF.out];exact⟨rfl,HD.out⟩
   . have d1:decide (u<r)=false:=decide_eq_false g1;have d1':decide ((u:Int)<(r:Int))=false:=decide_eq_false (by omega);have g2:u<wr0:=by omega
     have d2:decide (u<wr0)=true:=decide_eq_true g2;have d2':decide ((u:Int)<(wr0:Int))=true:=decide_eq_true (by omega);clear g0 g1 g2;go_wp2_with fail
     refine bodyPost_ret (v:=.tuple #[.agg #[.string ⟨#[]⟩,.int .i64 0,.int .i64 0,.int .i64 0],.int .i64 0,.int .i64 9]) (by simp[results,Tryz.results95,go_sem,tc0,tc1,tc2,tc3];try rfl) rfl ?_;rw[hF.out];exact⟨rfl,HD.out⟩
 have d1:decide (u<r)=false:=decide_eq_false (by omega);have d1':decide ((u:Int)<(r:Int))=false:=decide_eq_false (by omega);have d2:decide (u<wr0)=false:=decide_eq_false (by omega);have d2':decide ((u:Int)<(wr0:Int))=false:=decide_eq_false (by omega);have CN:=zH (Kf key hkey hk1 hkn hn HS2.out);unfold zbk at CN;have hns:=j8 (n:=n) (k:=k) (st:=st) (key:=key) hk1;have HNO:Hid ((newest n k st key).2.2=true->1<=(newest n k st key).1/\(newest n k st key).1<=st.wr):=zH (Vp HS.out.ok);have HF0:Hid (yI n k wr0 r st key=if(newest n k st key).2.2=false then(st,Tl.no,4) else((U.foldl (qw k (newest n k st key).2.1 (newest n k st key).1 key) (st,0)).1,⟨(newest n k st key).2.1,(newest n k st key).1,(U.foldl (qw k (newest n k st key).2.1 (newest n k st key).1 key) (st,0)).2⟩,0)):=zH (by
  unfold yI;rw[HU.out,HUL.out,if_neg g0])
 obtain⟨NW,hNW⟩:∃NW,newest n k st key=NW:=⟨_,rfl⟩
 rw[hNW]at CN hns HF0 HNO;obtain⟨a,text,fd⟩:=NW;dsimp only at CN hns HF0 HNO;clear hNW g0;go_wp2_with fail
 (with_reducible refine CN.out.mono ?_)
 rintro e w3 ⟨rfl,hb3⟩;have HB3:Hid (Below w.heap.size w w3):=zH (HB2.out.trans (hb3.mono HB2.out.size));have HR3:=zH ((hb3.block w.heap.size HZ2.out).trans HR2.out);have HOU3:=zH (zi HOU.out hb3);have HZ3:Hid (w.heap.size<w3.heap.size):=zH (Nat.lt_of_lt_of_le HZ2.out hb3.size);clear CN hb3 HOU c2 c3;cases fd with
 |false=>
  have hF:Hid (yI n k wr0 r st key=(st,Tl.no,4)):=zH (by rw[HF0.out,if_pos rfl]);have hb4:Below w.heap.size w (w3.alloc (.cells #[.int .i64 (a:Int),.int .i64 0] 68)):=HB3.out.alloc HB3.out.size _;have hr4:=za w3 (.cells #[.int .i64 (a:Int),.int .i64 0] 68) HR3.out;obtain⟨r0,r1,r2',r3⟩:=zc4 HR3.out;obtain⟨f0,f1,f2,f3⟩:=zf4 HR3.out;obtain⟨tc0,tc1,tc2,tc3⟩:=yg hr4 (.string ⟨#[]⟩) (.int .i64 0) (.int .i64 0) (.int .i64 0);have hD:=Qm (HS.out.wide hb4) (HS.out.kept hb4) (fun x hx=>WideA.old hx) (WideA.new (Nat.le_refl _) (by have:=HZ3.out;simp;omega)) HAV.out HBS.out (.string ⟨#[]⟩) (.int .i64 0) (.int .i64 0) (.int .i64 0);have hlt3:=HZ3.out;rw[World.setCell_alloc_past _ _ _ _ hlt3,World.setCell_alloc_past _ _ _ _ (by simpa using hlt3),World.setCell_alloc_past _ _ _ _ (by simpa using hlt3),World.setCell_alloc_past _ _ _ _ (by simpa using hlt3)]at tc0 tc1 tc2 tc3 hD;have HD:=zH hD;clear hb4 hr4 hD HNO HF0;go_wp2_with fail
  refine bodyPost_ret (v:=.tuple #[.agg #[.string ⟨#[]⟩,.int .i64 0,.int .i64 0,.int .i64 0],.int .i64 0,.int .i64 4]) (by simp[results,Tryz.results95,go_sem,tc0,tc1,tc2,tc3];try rfl) rfl ?_;rw[hF.out];exact⟨rfl,HD.out⟩
 |true=>
  obtain⟨ha1,ha2⟩:=HNO.out rfl;have HF:Hid (yI n k wr0 r st key=((U.foldl (qw k text a key) (st,0)).1,⟨text,a,(U.foldl (qw k text a key) (st,0)).2⟩,0)):=zH (by rw[HF0.out,if_neg (by simp)]);obtain⟨W4,hW4⟩:∃W4,w3.alloc (.cells #[.int .i64 (a:Int),.int .i64 0] 68)=W4:=⟨_,rfl⟩
  have hb34:Below w3.heap.size w3 W4:=by rw[<-hW4];exact zc _ _
  have hat4:W4.heap[w3.heap.size]?=some (.cells #[.int .i64 (a:Int),.int .i64 0] 68 (0,0)):=by rw[<-hW4];exact heap_alloc_new w3 _
  have hz4:W4.heap.size=w3.heap.size+1:=by rw[<-hW4];simp
  have HB4:Hid (Below w.heap.size w W4):=zH (HB3.out.trans (hb34.mono HB3.out.size));have hS4:=HS.out.below HB4.out;have c0:=hS4.cells.1;have c1:=hS4.cells.2.1;have HBL:Hid (b<W4.heap.size):=zH hS4.blt;have CG:=zH (fun W=>ZB text k n W hns hk1 hkn hn);unfold QZ at CG;have HB34:=zH hb34;have HAT4:=zH hat4;have HZ4:=zH hz4;have HW4:=zH hW4;rw[<-hW4]at c0 c1;have HC:=zH (And.intro c0 c1);clear hb34 hat4 hz4 hW4 hS4 HNO HF0;go_wp2_with fail
  go_region_held3 (fun w'=>w'.cell? ⟨b,0,none⟩=some (.int .i64 (n:Int))/\w'.cell? ⟨b,1,none⟩=some (.int .i64 (k:Int))) (first|exact⟨(hb5.cell (p:=⟨b,0,none⟩) (by rw[HW4.out];exact HBL.out)).trans c0,(hb5.cell (p:=⟨b,1,none⟩) (by rw[HW4.out];exact HBL.out)).trans c1⟩|exact⟨(hb5.cell (p:=⟨b,0,none⟩) (show b<(w3.alloc _).heap.size by rw[HW4.out];exact HBL.out)).trans c0,(hb5.cell (p:=⟨b,1,none⟩) (show b<(w3.alloc _).heap.size by rw[HW4.out];exact HBL.out)).trans c1⟩|go_keep) (first|(go_at_call 131;(with_reducible refine(CG.out _).mono ?_);rintro e w5 ⟨g,rfl,hown5,hb5⟩))
  all_goals
   rw[HW4.out]at hown5 hb5;have hb45:Below W4.heap.size W4 w5:=by first|exact hb5|exact(zb (Below.refl _ _)).trans hb5
   have HB5:Hid (Below w.heap.size w w5):=zH (HB4.out.trans (hb45.mono HB4.out.size));have HSx:=zH (HS.out.wide HB5.out);have HKx:=zH (HS.out.kept HB5.out);have hb35:=HB34.out.trans (hb45.mono (by rw[HZ4.out];omega));have HR5:=zH ((hb35.block w.heap.size HZ3.out).trans HR3.out);have HT5:=zH ((hb45.block w3.heap.size (by rw[HZ4.out];omega)).trans HAT4.out);have hz5:w3.heap.size<w5.heap.size:=by have:=hb45.size;rw[HZ4.out]at this;omega
   have HOU5:=zH (zi HOU3.out hb35);have HPC:Hid (Own w5 W4.heap.size 9 g n n fun j=>.string (pcs text k j)):=zH hown5;have hgl:=HPC.out.lt;have HRU:=zH (zF HOU5.out);have HXR:Hid (WideA Av w.heap.size w5.heap.size w.heap.size):=zH (WideA.new (Nat.le_refl _) (by have:=HZ3.out;omega));have HXT:Hid (WideA Av w.heap.size w5.heap.size w3.heap.size):=zH (WideA.new (by have:=HZ3.out;omega) hz5);have HXG:Hid (WideA Av w.heap.size w5.heap.size g):=zH (WideA.new (by have:=HZ3.out;have:=HZ4.out;omega) hgl.2);have HXU:Hid (∀x,ao2=some x->WideA Av w.heap.size w5.heap.size x.block):=zH fun x hx=>by
    have:=HOU5.out.lt x.block (by rw[hx];rfl);have:=HZ1.out;exact WideA.new (by omega) (by omega)
   have HOA:Hid (∀x,Av x->WideA Av w.heap.size w5.heap.size x):=zH fun x hx=>WideA.old hx
   obtain⟨Ax,hAx⟩:∃Ax,WideA Av w.heap.size w5.heap.size=Ax:=⟨_,rfl⟩
   rw[hAx]at HSx HXR HXT HXG HXU HOA;have HOK0:=zH HS.out.ok;have HA12:=zH (And.intro ha1 ha2);have HPS:Hid (∀i,i<n->w5.cell? ⟨g,i,none⟩=some (.string (pcs text k i))):=zH fun i hi=>HPC.out.cell hi
   have HNS:=zH hns;have ha6:a<=1000000:=by have:=HS.out.ok.w6;omega
   clear hown5 hb5 hb45 hb35 hz5 hgl hAx HPC HOU5 HOU3 HR3 HAT4 HB34 HS1 HB1 HR1 HB2 HR2 HS2 HB4 HBL c0 c1 HC CG;go_wp2_with fail
   go_loopw [13,69] (fun vm vj wr=>∃(j m:Nat) (V':Nat->Nat->Value),vj=.int .i64 j/\j<=u/\vm=.int .i64 m/\m<=j/\Hid (((U.take j).foldl (qw k text a key) (st,0)).2=m)/\Hid (Shf wr base Ax n k wr0 r b nb V' ((U.take j).foldl (qw k text a key) (st,0)).1)/\Hid (Kept Ax base w5 wr)) (fun _ vj _=>u-(intOf vj).toNat)
   case atStart=>exact⟨0,0,V,rfl,by omega,rfl,by omega,zH rfl,HSx,zH (Kept.refl _ _ _)⟩
   case round=>
    clear HSx;obtain⟨j,m,V',rfl,hj,rfl,hm,HM,HSj,HKj⟩:=hrel;obtain⟨wq,rfl⟩:∃wq,wq=wr:=⟨_,rfl⟩
    by_cases hju:j<u
    . obtain⟨i,hi⟩:∃i,U[j]?=some i:=⟨U[j]'(by rw[HUL.out];exact hju),List.getElem?_eq_getElem _⟩
      have hin:=HUM.out i (List.mem_of_getElem? hi);obtain⟨bu,ou,hra,xu⟩:=(HKj.out.reads HXU.out HRU.out) j _ (yN hi);cases hra;have HFN:=zH (jb (qw k text a key) (st,0) hi);have hOKj:=Kh (a:=a) (k:=k) (key:=key) HNS.out hk1 HA12.out.1 (U.take j) (st,0) HOK0.out HA12.out.2;obtain⟨P,hP⟩:∃P,(U.take j).foldl (qw k text a key) (st,0)=P:=⟨_,rfl⟩
      rw[hP]at HFN hOKj HM HSj;obtain⟨sj,mj⟩:=P;have hmj:mj=m:=HM.out;subst hmj;dsimp only at HFN hOKj HSj;have hS:=HSj.out;have x4:=hS.cells.2.2.2.2.1;obtain⟨ak,ck,hvk,hRk,hnk⟩:=hS.reads hin hkey;have xk:=hS.kpc hin hkey;rw[hvk]at xk;have fk:=hS.nodes.frozen (i*4+1+key);have xt0:=HKj.out.cell HXT.out (o:=0) (c:=.int .i64 (a:Int)) (by rw[zd HT5.out];rfl);have xt1:=HKj.out.cell HXT.out (o:=1) (c:=.int .i64 0) (by rw[zd HT5.out];rfl);have xp:=HKj.out.cell HXG.out (HPS.out i hin);obtain⟨PC,hPC⟩:∃PC,pcs text k i=PC:=⟨_,rfl⟩
      rw[hPC]at xp;have HPCC:=zH hPC;obtain⟨L,hL⟩:∃L,sj.kp i key=L:=⟨_,rfl⟩
      have hlk6:=hOKj.1.len i key;rw[hL]at hvk hRk hnk xk hlk6;obtain⟨lk,hlk⟩:∃lk,L.length=lk:=⟨_,rfl⟩
      rw[hlk]at hvk hnk xk hlk6;have HL:=zH hL;have HLK:=zH hlk;have HRK:=zH hRk;have HVK:=zH hvk;have HOKj:=zH hOKj;have HI:=zH hi;have HP:=zH hP;have i0:(0:Int)<=(i:Int):=by omega
      have i1:(i:Int)<(n:Int):=by omega
      have y0:(0:Int)<=(key:Int):=by omega
      have y1:(key:Int)<3:=by omega
      have hnl:=hS.nodes.lt.2;have hba:=zc wq (.cells #[.int .i64 (a:Int),.int .i64 0,.string PC] 106);have xk2:=(hba.cell (p:=⟨nb,i*4+1+key,none⟩) hnl).trans xk;have fk2:=(hba.frozen (p:=⟨nb,i*4+1+key,none⟩) hnl).trans fk;clear hi hPC hS hL hlk hRk hvk hOKj hP hba hnk;go_wp2_with fail
      go_region_held (fun w'=>w'.cell? ⟨w3.heap.size,0,none⟩=some (.int .i64 (a:Int))/\w'.cell? ⟨w3.heap.size,1,none⟩=some (.int .i64 0)/\w'.cell? ⟨g,i,none⟩=some (.string PC)) (go_keep) (fail)
      have HCT:Hid (∀W,Below wq.heap.size wq W->Calls Tryz.prog 81 #[.slice ak lk ck,.agg #[.int .i64 (a:Int),.int .i64 0,.string PC]] W (Xp (Qx L a PC) W)):=zH fun W hb=>pP L lk a PC ak ck W HLK.out (by omega) (zH (HRK.out.below hb))
      unfold Xp at HCT;obtain⟨B,hB⟩:∃B,Qx L a PC=B:=⟨_,rfl⟩
      rw[hB]at HCT;have HBV:=zH hB;have HNL:=zH hnl;have hba:=zc wq (.cells #[.int .i64 (a:Int),.int .i64 0,.string PC] 106);have HBA:=zH hba;have HSA:Hid ((wq.alloc (.cells #[.int .i64 (a:Int),.int .i64 0,.string PC] 106)).heap.size=wq.heap.size+1):=zH (by simp);have v0:(wq.alloc (.cells #[.int .i64 (a:Int),.int .i64 0,.string PC] 106)).cell? ⟨wq.heap.size,0,none⟩=some (.int .i64 (a:Int)):=by simp[World.cell?_alloc_new]
      have v1:(wq.alloc (.cells #[.int .i64 (a:Int),.int .i64 0,.string PC] 106)).cell? ⟨wq.heap.size,1,none⟩=some (.int .i64 0):=by simp[World.cell?_alloc_new]
      have v2:(wq.alloc (.cells #[.int .i64 (a:Int),.int .i64 0,.string PC] 106)).cell? ⟨wq.heap.size,2,none⟩=some (.string PC):=by simp[World.cell?_alloc_new]
      have HXK:=zH xk;have HFK:=zH fk;have HXT0:=zH xt0;have HXT1:=zH xt1;have HT3:Hid (w3.heap.size<wq.heap.size):=zH (World.block_lt_of_cell? _ _ xt0);clear hB hba
      all_goals
       go_wp2_with fail
       go_region_held3 (fun w'=>w'.cell? ⟨nb,i*4+1+key,none⟩=some (.slice ak lk ck)/\w'.cell? ⟨wq.heap.size,0,none⟩=some (.int .i64 (a:Int))/\w'.cell? ⟨wq.heap.size,1,none⟩=some (.int .i64 0)/\w'.cell? ⟨wq.heap.size,2,none⟩=some (.string PC)) (first|exact⟨(hb7.cell (p:=⟨nb,i*4+1+key,none⟩) (show nb<(wq.alloc _).heap.size by rw[HSA.out];have:=HNL.out;omega)).trans xk2,(hb7.cell (p:=⟨wq.heap.size,0,none⟩) (show wq.heap.size<(wq.alloc _).heap.size by rw[HSA.out];omega)).trans v0,(hb7.cell (p:=⟨wq.heap.size,1,none⟩) (show wq.heap.size<(wq.alloc _).heap.size by rw[HSA.out];omega)).trans v1,(hb7.cell (p:=⟨wq.heap.size,2,none⟩) (show wq.heap.size<(wq.alloc _).heap.size by rw[HSA.out];omega)).trans v2⟩|go_keep)
        (first|(go_at_call 81;(with_reducible refine(HCT.out _ (by first|exact zb HBA.out|exact zb (zb HBA.out))).mono ?_);rintro e w7 ⟨rfl,hb7⟩))
       have hb7w:Below wq.heap.size wq w7:=by
        first
         |exact(zb HBA.out).trans (hb7.mono (show wq.heap.size<=(wq.alloc _).heap.size by rw[HSA.out];omega))
         |exact(zb (zb HBA.out)).trans (hb7.mono (show wq.heap.size<=(wq.alloc _).heap.size by rw[HSA.out];omega))
       have HB7:=zH hb7w;have q0:=(hb7.cell (p:=⟨wq.heap.size,0,none⟩) (show wq.heap.size<(wq.alloc _).heap.size by rw[HSA.out];omega)).trans v0;have q1:=(hb7.cell (p:=⟨wq.heap.size,1,none⟩) (show wq.heap.size<(wq.alloc _).heap.size by rw[HSA.out];omega)).trans v1;have q2:=(hb7.cell (p:=⟨wq.heap.size,2,none⟩) (show wq.heap.size<(wq.alloc _).heap.size by rw[HSA.out];omega)).trans v2;have q0':w7.cell? ⟨wq.heap.size,0,none⟩=some (.int .i64 (a:Int)):=q0;have q1':w7.cell? ⟨wq.heap.size,1,none⟩=some (.int .i64 0):=q1;have q2':w7.cell? ⟨wq.heap.size,2,none⟩=some (.string PC):=q2;have xk7:w7.cell? ⟨nb,i*4+1+key,none⟩=some (.slice ak lk ck):=(HB7.out.cell (p:=⟨nb,i*4+1+key,none⟩) HNL.out).trans HXK.out;obtain⟨gq,hgq⟩:∃gq,w7.heap.size=gq:=⟨_,rfl⟩
       have HGQ:=zH hgq;have hb8:Below w7.heap.size w7 (w7.alloc (.cells #[.int .i64 (a:Int),.int .i64 0,.string PC] 106)):=zc _ _;have HB8:Hid (Below gq w7 (w7.alloc (.cells #[.int .i64 (a:Int),.int .i64 0,.string PC] 106))):=zH (hgq ▸ hb8);have HO8:Hid ((w7.alloc (.cells #[.int .i64 (a:Int),.int .i64 0,.string PC] 106)).ownsRow gq 106 3 (.slice (some ⟨w7.heap.size,0,none⟩) 1 1) 1 (zw [(a,PC)])):=zH (by
        have:=zcY w7 w7.heap.size a PC (Nat.le_refl _);rw[hgq]at this ⊢;exact this)
       have xk8:=(hb8.cell (p:=⟨nb,i*4+1+key,none⟩) (World.block_lt_of_cell? _ _ xk7)).trans xk7;clear hgq hb7 hb7w q0 q1 q2 xk2 fk2 v0 v1 v2 xt0 xt1 xk fk hb8 HCT;cases B
       all_goals
        simp only[Bool.not_true,Bool.not_false];go_wp2_with fail
        go_loopw [18,102] (fun vn vq wr=>∃q:Nat,vq=.int .i64 q/\q<=lk/\Hid (wr.ownsRow gq 106 3 vn (1+((L.take q).filter (fun x=>decide (a<x.1))).length) (zw ((a,PC)::(L.take q).filter (fun x=>decide (a<x.1)))))/\Hid (Below gq w7 wr)) (fun _ vq _=>lk-(intOf vq).toNat)
        case atStart=>exact⟨0,rfl,by omega,zH (by simpa using HO8.out),HB8⟩
        case round=>
         clear HO8 HB8;obtain⟨q,rfl,hq,HO,HBq⟩:=hrel;obtain⟨wz,rfl⟩:∃wz,wz=wr:=⟨_,rfl⟩
         have HBz:Hid (Below wq.heap.size wq wz):=zH (HB7.out.trans (HBq.out.mono (by rw[<-HGQ.out];exact HB7.out.size)));have HZz:Hid (gq<=wz.heap.size):=zH (by rw[<-HGQ.out];exact(HGQ.out ▸ HBq.out).size);by_cases hql:q<lk
         . obtain⟨bk,ok,hrk,z0,z1,z2⟩:=y9 (HRK.out.below HBz.out) (k:=q) (by rw[HLK.out];exact hql);cases hrk;obtain⟨x,hx⟩:∃x,L[q]'(by rw[HLK.out];exact hql)=x:=⟨_,rfl⟩
           have HXQ:Hid (L[q]?=some x):=zH (by rw[List.getElem?_eq_getElem (by rw[HLK.out];exact hql),hx]);rw[hx]at z0 z2;obtain⟨c,s⟩:=x;have HFS:=zH (zc6 a HXQ.out);have hfl:((L.take q).filter (fun x=>decide (a<x.1))).length<=q:=Nat.le_trans (List.length_filter_le _ _) (List.length_take_le _ _);have HFL:=zH hfl;obtain⟨fl,hfl2⟩:∃fl,((L.take q).filter (fun x=>decide (a<x.1))).length=fl:=⟨_,rfl⟩
           rw[hfl2]at HO hfl;have HFL2:=zH hfl2;have hbz1:=zc wz (.cells #[.int .i64 (c:Int),.int .i64 0,.string s] 106);have HBZ1:=zH hbz1;have HSZ1:Hid ((wz.alloc (.cells #[.int .i64 (c:Int),.int .i64 0,.string s] 106)).heap.size=wz.heap.size+1):=zH (by simp);have ht0:=(HBz.out.cell (p:=⟨w3.heap.size,0,none⟩) HT3.out).trans HXT0.out;have ht1:=(HBz.out.cell (p:=⟨w3.heap.size,1,none⟩) HT3.out).trans HXT1.out;have m0:=(hbz1.cell (p:=⟨w3.heap.size,0,none⟩) (World.block_lt_of_cell? _ _ ht0)).trans ht0;have m1:=(hbz1.cell (p:=⟨w3.heap.size,1,none⟩) (World.block_lt_of_cell? _ _ ht1)).trans ht1;have n0:(wz.alloc (.cells #[.int .i64 (c:Int),.int .i64 0,.string s] 106)).cell? ⟨wz.heap.size,0,none⟩=some (.int .i64 (c:Int)):=by simp[World.cell?_alloc_new]
           have n1:(wz.alloc (.cells #[.int .i64 (c:Int),.int .i64 0,.string s] 106)).cell? ⟨wz.heap.size,1,none⟩=some (.int .i64 0):=by simp[World.cell?_alloc_new]
           have n2:(wz.alloc (.cells #[.int .i64 (c:Int),.int .i64 0,.string s] 106)).cell? ⟨wz.heap.size,2,none⟩=some (.string s):=by simp[World.cell?_alloc_new]
           have HN012:=zH (And.intro n0 (And.intro n1 n2));have CN:=zH (fun W=>QT (c:Int) 0 (a:Int) 0 W);rw[jx]at CN;clear hx hbz1 hfl2 ht0 ht1;by_cases hca:a<c
           . have hd:decide (a<c)=true:=decide_eq_true hca;rw[hd]at CN;have HCA:=zH hca;clear hca hd;go_wp2_with fail
             (with_reducible refine(CN.out _).mono ?_)
             rintro e w9 ⟨rfl,hb9⟩;have u0:=(hb9.cell (p:=⟨wz.heap.size,0,none⟩) (show wz.heap.size<(wz.alloc _).heap.size by rw[HSZ1.out];omega)).trans HN012.out.1;have u1:=(hb9.cell (p:=⟨wz.heap.size,1,none⟩) (show wz.heap.size<(wz.alloc _).heap.size by rw[HSZ1.out];omega)).trans HN012.out.2.1;have u2:=(hb9.cell (p:=⟨wz.heap.size,2,none⟩) (show wz.heap.size<(wz.alloc _).heap.size by rw[HSZ1.out];omega)).trans HN012.out.2.2;have hbz9:Below wz.heap.size wz w9:=HBZ1.out.trans (hb9.mono (by rw[HSZ1.out];omega));have HB9:Hid (Below gq w7 w9):=zH (HBq.out.trans (hbz9.mono HZz.out));have HO9:=zH (zi HO.out hbz9);clear hb9 hbz9 m0 m1 n0 n1 n2 CN;go_wp2_with (first
              |(at_builtin;go_loud (refine yr rfl (.tmp 110) (.tmp 112) 111 rfl gq 106 _ 3 32 Tryz.underlying111 Xk _ _ _ (by rfl) HO9.out [.int .i64 (c:Int),.int .i64 0,.string s] (by rfl) rfl (by intro u hu;simp at hu;rcases hu with rfl|rfl|rfl<;>rfl) (by unfold maxLen;omega) (by omega) (Nat.le_trans HZz.out (by have:=HB9.out.size;have:=HBq.out.size;exact World.block_lt_of_cell? _ _ u0|>Nat.le_of_lt)) ?_);intro v10 w10 hown10 hgr10 hb10;have HO10:Hid (w10.ownsRow gq 106 3 v10 (1+((L.take (q+1)).filter (fun x=>decide (a<x.1))).length) (zw ((a,PC)::(L.take (q+1)).filter (fun x=>decide (a<x.1))))):=zH (by rw[HFS.out,if_pos HCA.out,List.length_append,HFL2.out];rw[<-List.cons_append,kB];exact hown10);have HB10:=zH (HB9.out.trans hb10);clear hown10 hgr10 hb10)
              |fail)
             go_roundw
             case rel=>exact⟨q+1,by go_num,by omega,HO10,HB10⟩
             case measure=>simp[intOf];omega
           . have hd:decide (a<c)=false:=decide_eq_false hca;rw[hd]at CN;have HCA:=zH hca;clear hca hd;go_wp2_with fail
             (with_reducible refine(CN.out _).mono ?_)
             rintro e w9 ⟨rfl,hb9⟩;have hbz9:Below wz.heap.size wz w9:=HBZ1.out.trans (hb9.mono (by rw[HSZ1.out];omega));have HB9:Hid (Below gq w7 w9):=zH (HBq.out.trans (hbz9.mono HZz.out));have HO9:Hid (w9.ownsRow gq 106 3 u18 (1+((L.take (q+1)).filter (fun x=>decide (a<x.1))).length) (zw ((a,PC)::(L.take (q+1)).filter (fun x=>decide (a<x.1))))):=zH (by
              rw[HFS.out,if_neg HCA.out,List.append_nil,HFL2.out];exact zi HO.out hbz9)
             clear hb9 hbz9 m0 m1 n0 n1 n2 CN;go_wp2_with fail
             go_roundw
             case rel=>exact⟨q+1,by go_num,by omega,HO9,HB9⟩
             case measure=>simp[intOf];omega
         . obtain rfl:lk=q:=by omega
           have hO:=HO.out;rw[List.take_of_length_le (by rw[HLK.out];exact Nat.le_refl _)]at hO;obtain⟨g9,c9,rfl⟩:=yR hO (by simp[zw,kpC]);have hbq:base<=gq:=by rw[<-HGQ.out];exact Nat.le_trans (Nat.le_trans HSj.out.hb (Nat.le_of_lt HSj.out.blt)) HB7.out.size
           have hge:wq.heap.size<=g9:=Nat.le_trans (by rw[<-HGQ.out];exact HB7.out.size) (hO.lt g9 rfl).1;have hlen:1+(L.filter (fun x=>decide (a<x.1))).length=(YX a PC L).length:=by unfold YX;rw[List.length_cons];omega
           have hnew:=HSj.out.put_row (l:=YX a PC L) hin hkey (Yw HBz.out (V' i key).ownBlock) (by rw[<-hlen];exact qm hO hbq) (.inr ⟨g9,rfl,hge⟩)
            (by
             have h1:=HOKj.out.1.fix i key a (p:=PC) HA12.out.1 (by rw[HOKj.out.2.1];exact HA12.out.2) (by rw[<-HPCC.out];exact kM _ _ _ HNS.out hk1);rw[HL.out]at h1;exact h1)
           have xkz:=(HBz.out.cell (p:=⟨nb,i*4+1+key,none⟩) HNL.out).trans HXK.out;have fkz:=(HBz.out.frozen (p:=⟨nb,i*4+1+key,none⟩) HNL.out).trans HFK.out;have HN1:Hid (Shf (wz.setCell ⟨nb,i*4+1+key,none⟩ (.slice (some ⟨g9,0,none⟩) (1+(L.filter (fun x=>decide (a<x.1))).length) c9)) base Ax n k wr0 r b nb (zaV V' i key (.slice (some ⟨g9,0,none⟩) (1+(L.filter (fun x=>decide (a<x.1))).length) c9)) ((U.take (j+1)).foldl (qw k text a key) (st,0)).1):=zH (by
            rw[HFN.out];unfold qw;dsimp only;rw[HL.out,HPCC.out];exact hnew.1)
           have HN2:Hid (Kept Ax base w5 (wz.setCell ⟨nb,i*4+1+key,none⟩ (.slice (some ⟨g9,0,none⟩) (1+(L.filter (fun x=>decide (a<x.1))).length) c9))):=zH (HKj.out.trans hnew.2);have HMM:Hid (((U.take (j+1)).foldl (qw k text a key) (st,0)).2=mj+if Qx L a PC then 0 else 1):=zH (by
            rw[HFN.out];unfold qw;dsimp only;rw[HL.out,HPCC.out])
           rw[HBV.out]at HMM;obtain⟨nl,hnl2⟩:∃nl,1+(L.filter (fun x=>decide (a<x.1))).length=nl:=⟨_,rfl⟩
           rw[hnl2]at HN1 HN2 ⊢;clear hnew hO hbq hge hlen HO hnl2;go_wp2_with fail
           go_roundw
           case rel=>first
            |exact⟨j+1,mj,_,by go_num,by omega,rfl,by omega,HMM,HN1,HN2⟩
            |exact⟨j+1,mj+1,_,by go_num,by omega,by go_num,by omega,HMM,HN1,HN2⟩
           case measure=>simp[intOf];omega
    . obtain rfl:u=j:=by omega
      have r5:=(HKj.out.blk _ HXR.out).trans HR5.out;obtain⟨r0,r1,r2',r3⟩:=zc4 r5;obtain⟨f0,f1,f2,f3⟩:=zf4 r5;have xt0:=HKj.out.cell HXT.out (o:=0) (c:=.int .i64 (a:Int)) (by rw[zd HT5.out];rfl);have xt1:=HKj.out.cell HXT.out (o:=1) (c:=.int .i64 0) (by rw[zd HT5.out];rfl);have HD:=zH (Qm HSj.out (HKx.out.trans (HKj.out.narrow HOA.out)) HOA.out HXR.out HAV.out HBS.out (.string text) (.int .i64 (a:Int)) (.int .i64 0) (.int .i64 0));have HFU:Hid (U.take u=U):=zH (List.take_of_length_le (by rw[HUL.out];exact Nat.le_refl _));obtain⟨tc0,tc1,tc2,tc3⟩:=yg r5 (.string text) (.int .i64 (a:Int)) (.int .i64 0) (.int .i64 0);clear r5;go_wp2_with fail
      refine bodyPost_ret (v:=.tuple #[.agg #[.string text,.int .i64 (a:Int),.int .i64 0,.int .i64 0],.int .i64 (m:Int),.int .i64 0]) (by simp[results,Tryz.results95,go_sem,tc0,tc1,tc2,tc3];try rfl) rfl ?_;have hM:=HM.out;have hD:=HD.out;rw[HFU.out]at hM hD;rw[HF.out];exact⟨by rw[<-hM];rfl,hD⟩
end Go.Proofs.YtmgfbmkfomebcaaGreatDoor
