/- Contracts of package quorum, and of the reference's QuorumErr, Newer. -/
import Derived.Test.YtmgfbmkfomebcaaGreatDoorRows
import Derived.Test.YtmgfbmkfomebcaaGreatDoorDkM2
import Derived.Test.YtmgfbmkfomebcaaGreatDoorDkM8
import Derived.Test.YtmgfbmkfomebcaaGreatDoorDkM15
import Derived.Lib.QuietBelow
import Derived.Below
import Derived.Handy
import Derived.Test.YtmgfbmkfomebcaaGreatDoorDkM13
set_option linter.unusedVariables false
set_option linter.unusedSimpArgs false
set_option maxRecDepth 100000
set_option maxHeartbeats 4000000
namespace Go.Proofs.YtmgfbmkfomebcaaGreatDoor
open Go.RowKit
abbrev qV(n k w r:Int):Value:=.agg #[.int .i64 n,.int .i64 k,.int .i64 w,.int .i64 r]
def inB(x n:Int):Bool:=decide (1<=x)&&decide (x<=n)
def qp(n k w r:Int):Int:=if n<1\/10<n\/inB k n=false\/inB w n=false\/inB r n=false then 1 else if w+r<n+k then 9 else 0
theorem vC{x n:Int}(h:inB x n=true):1<=x/\x<=n:=by simpa[inB]using h
theorem Q7(x n:Int)(b:Nat)(w:World)(hc:w.cell? ⟨b,0,none⟩=some (.int .i64 n)):
 Calls Tryz.prog 30 #[.int .i64 x,.pointer (some ⟨b,0,none⟩)] w fun e w'=>e=.returned (.bool (inB x n))/\w=w':=by
 go_enter Tryz.func30,Tryz.ntmps30
 by_cases h:1<=x
 . have h2:decide (1<=x)=true:=decide_eq_true h;unfold inB;rw[h2];go_wp2_with fail
   go_ret
   exact⟨by simp,rfl⟩
 . have h2:decide (1<=x)=false:=decide_eq_false h;unfold inB;rw[h2];go_wp2_with fail
   go_ret
   exact⟨by simp,rfl⟩
theorem zc(w:World)(o:Obj):Below w.heap.size w (w.alloc o):=
 ⟨rfl,rfl,rfl,by show _<=(w.heap.push o).size;rw[Array.size_push];omega,fun k hk=>by show(w.heap.push o)[k]?=_;rw[Array.getElem?_push,if_neg (by omega)]⟩
theorem zbt(n k wr r:Int):(n<1/\qp n k wr r=1)\/(1<=n/\10<n/\qp n k wr r=1)\/(1<=n/\n<=10/\inB k n=false/\qp n k wr r=1)\/(1<=n/\n<=10/\inB k n=true/\inB wr n=false/\qp n k wr r=1)\/
 (1<=n/\n<=10/\inB k n=true/\inB wr n=true/\inB r n=false/\qp n k wr r=1)\/(1<=n/\n<=10/\inB k n=true/\inB wr n=true/\inB r n=true/\wr+r<n+k/\qp n k wr r=9)\/
 (1<=n/\n<=10/\inB k n=true/\inB wr n=true/\inB r n=true/\n+k<=wr+r/\qp n k wr r=0):=by
 unfold qp;by_cases h1:n<1
 . exact .inl ⟨h1,if_pos (.inl h1)⟩
 . by_cases h2:10<n
   . exact .inr (.inl ⟨by omega,h2,if_pos (.inr (.inl h2))⟩)
   . cases h3:inB k n
     . exact .inr (.inr (.inl ⟨by omega,by omega,rfl,if_pos (.inr (.inr (.inl rfl)))⟩))
     . cases h4:inB wr n
       . exact .inr (.inr (.inr (.inl ⟨by omega,by omega,rfl,rfl,if_pos (.inr (.inr (.inr (.inl rfl))))⟩)))
       . cases h5:inB r n
         . exact .inr (.inr (.inr (.inr (.inl ⟨by omega,by omega,rfl,rfl,rfl,if_pos (.inr (.inr (.inr (.inr rfl))))⟩))))
         . have hn:¬(n<1\/10<n\/true=false\/true=false\/true=false):=by simp;omega
           rw[if_neg hn];by_cases h6:wr+r<n+k
           . exact .inr (.inr (.inr (.inr (.inr (.inl ⟨by omega,by omega,rfl,rfl,rfl,h6,if_pos h6⟩)))))
           . exact .inr (.inr (.inr (.inr (.inr (.inr ⟨by omega,by omega,rfl,rfl,rfl,by omega,if_neg h6⟩)))))
theorem Qy(n k wr r:Int)(w:World):
 Calls Tryz.prog 14 #[qV n k wr r] w fun e w'=>e=.returned (.int .i64 (qp n k wr r))/\Below w.heap.size w w':=by
 have hb:=zH (zc w (.cells #[.int .i64 n,.int .i64 k,.int .i64 wr,.int .i64 r] 33));have hc0:(w.alloc (.cells #[.int .i64 n,.int .i64 k,.int .i64 wr,.int .i64 r] 33)).cell? ⟨w.heap.size,0,none⟩=some (.int .i64 n):=by simp[World.cell?_alloc_new]
 have Ck:=zH (Q7 k n w.heap.size _ hc0);have Cw:=zH (Q7 wr n w.heap.size _ hc0);have Cr:=zH (Q7 r n w.heap.size _ hc0);clear hc0;rcases zbt n k wr r with⟨a1,a0⟩|⟨a1,a2,a0⟩|⟨a1,a2,a3,a0⟩|⟨a1,a2,a3,a4,a0⟩|⟨a1,a2,a3,a4,a5,a0⟩|⟨a1,a2,a3,a4,a5,a6,a0⟩|⟨a1,a2,a3,a4,a5,a6,a0⟩
 . rw[a0];have d1:decide (n<1)=true:=decide_eq_true a1;clear a0;go_enter Tryz.func14,Tryz.ntmps14
   go_wp2_with fail
   go_ret
   exact⟨rfl,hb.out⟩
 . rw[a0];have d1:decide (n<1)=false:=decide_eq_false (by omega);have d2:decide (10<n)=true:=decide_eq_true a2;clear a0;go_enter Tryz.func14,Tryz.ntmps14
   go_wp2_with fail
   go_ret
   exact⟨rfl,hb.out⟩
 . rw[a0];have d1:decide (n<1)=false:=decide_eq_false (by omega);have d2:decide (10<n)=false:=decide_eq_false (by omega);rw[a3]at Ck;clear a0 a3;go_enter Tryz.func14,Tryz.ntmps14
   go_wp2_with (go_at_call 30;with_reducible refine Ck.out.mono ?_;rintro e w' ⟨rfl,rfl⟩)
   go_ret
   exact⟨rfl,hb.out⟩
 . rw[a0];have d1:decide (n<1)=false:=decide_eq_false (by omega);have d2:decide (10<n)=false:=decide_eq_false (by omega);rw[a3]at Ck;rw[a4]at Cw;clear a0 a3 a4;go_enter Tryz.func14,Tryz.ntmps14
   go_wp2_with (go_at_call 30;first|(with_reducible refine Ck.out.mono ?_;rintro e w' ⟨rfl,rfl⟩)|(with_reducible refine Cw.out.mono ?_;rintro e w' ⟨rfl,rfl⟩))
   go_ret
   exact⟨rfl,hb.out⟩
 . rw[a0];have d1:decide (n<1)=false:=decide_eq_false (by omega);have d2:decide (10<n)=false:=decide_eq_false (by omega);rw[a3]at Ck;rw[a4]at Cw;rw[a5]at Cr;clear a0 a3 a4 a5;go_enter Tryz.func14,Tryz.ntmps14
   go_wp2_with (go_at_call 30;first|(with_reducible refine Ck.out.mono ?_;rintro e w' ⟨rfl,rfl⟩)|(with_reducible refine Cw.out.mono ?_;rintro e w' ⟨rfl,rfl⟩)|(with_reducible refine Cr.out.mono ?_;rintro e w' ⟨rfl,rfl⟩))
   go_ret
   exact⟨rfl,hb.out⟩
 . rw[a0];have d1:decide (n<1)=false:=decide_eq_false (by omega);have d2:decide (10<n)=false:=decide_eq_false (by omega);have b3:=vC a3;have b4:=vC a4;have b5:=vC a5;have w1:IntKind.i64.wrap (wr+r)=wr+r:=IntWalk.i64_in _ (by omega);have w2:IntKind.i64.wrap (n+k)=n+k:=IntWalk.i64_in _ (by omega);have d6:decide (wr+r<n+k)=true:=decide_eq_true a6;rw[a3]at Ck;rw[a4]at Cw;rw[a5]at Cr;clear a0 a3 a4 a5 b3 b4 b5 a6;go_enter Tryz.func14,Tryz.ntmps14
   go_wp2_with (go_at_call 30;first|(with_reducible refine Ck.out.mono ?_;rintro e w' ⟨rfl,rfl⟩)|(with_reducible refine Cw.out.mono ?_;rintro e w' ⟨rfl,rfl⟩)|(with_reducible refine Cr.out.mono ?_;rintro e w' ⟨rfl,rfl⟩))
   go_ret
   exact⟨rfl,hb.out⟩
 . rw[a0];have d1:decide (n<1)=false:=decide_eq_false (by omega);have d2:decide (10<n)=false:=decide_eq_false (by omega);have b3:=vC a3;have b4:=vC a4;have b5:=vC a5;have w1:IntKind.i64.wrap (wr+r)=wr+r:=IntWalk.i64_in _ (by omega);have w2:IntKind.i64.wrap (n+k)=n+k:=IntWalk.i64_in _ (by omega);have d6:decide (wr+r<n+k)=false:=decide_eq_false (by omega);rw[a3]at Ck;rw[a4]at Cw;rw[a5]at Cr;clear a0 a3 a4 a5 b3 b4 b5 a6;go_enter Tryz.func14,Tryz.ntmps14
   go_wp2_with (go_at_call 30;first|(with_reducible refine Ck.out.mono ?_;rintro e w' ⟨rfl,rfl⟩)|(with_reducible refine Cw.out.mono ?_;rintro e w' ⟨rfl,rfl⟩)|(with_reducible refine Cr.out.mono ?_;rintro e w' ⟨rfl,rfl⟩))
   go_ret
   exact⟨rfl,hb.out⟩
theorem XS(n k wr r:Int)(w:World):
 Calls Tryz.prog 24 #[qV n k wr r] w fun e w'=>e=.returned (.int .i64 (qp n k wr r))/\Below w.heap.size w w':=by
 have hb:=zH (zc w (.cells #[.int .i64 n,.int .i64 k,.int .i64 wr,.int .i64 r] 33));have hq:qp n k wr r=if n<1\/10<n\/min (min k wr) r<1\/n<max (max k wr) r then 1 else if wr+r<n+k then 9 else 0:=by
  unfold qp inB;simp only[Bool.and_eq_false_iff,decide_eq_false_iff_not]
  congr 1
  simp only[eq_iff_iff];omega
 rw[hq];clear hq;by_cases n1:n<1
 . have d1:decide (n<1)=true:=decide_eq_true n1;rw[if_pos (Or.inl n1)];go_enter Tryz.func24,Tryz.ntmps24
   go_wp2_with fail
   go_ret
   exact⟨rfl,hb.out⟩
 have d1:decide (n<1)=false:=decide_eq_false n1;by_cases n2:10<n
 . have d2:decide (10<n)=true:=decide_eq_true n2;rw[if_pos (Or.inr (Or.inl n2))];go_enter Tryz.func24,Tryz.ntmps24
   go_wp2_with fail
   go_ret
   exact⟨rfl,hb.out⟩
 have d2:decide (10<n)=false:=decide_eq_false n2;by_cases n3:min (min k wr) r<1
 . have hv:Hid ((if n<1\/10<n\/min (min k wr) r<1\/n<max (max k wr) r then(1:Int) else if wr+r<n+k then 9 else 0)=1):=if_pos (by omega);rw[hv.out];go_enter Tryz.func24,Tryz.ntmps24
   go_wp2_with fail
   all_goals first|(exfalso;omega)|(go_ret;exact⟨rfl,hb.out⟩)
 by_cases n4:n<max (max k wr) r
 . have hv:Hid ((if n<1\/10<n\/min (min k wr) r<1\/n<max (max k wr) r then(1:Int) else if wr+r<n+k then 9 else 0)=1):=if_pos (by omega);rw[hv.out];go_enter Tryz.func24,Tryz.ntmps24
   go_wp2_with fail
   all_goals first|(exfalso;omega)|(go_ret;exact⟨rfl,hb.out⟩)
 rw[if_neg (by omega)];have w1:IntKind.i64.wrap (wr+r)=wr+r:=IntWalk.i64_in _ (by omega);have w2:IntKind.i64.wrap (n+k)=n+k:=IntWalk.i64_in _ (by omega);by_cases hs:wr+r<n+k
 . have d6:decide (wr+r<n+k)=true:=decide_eq_true hs;rw[if_pos hs];go_enter Tryz.func24,Tryz.ntmps24
   go_wp2_with fail
   all_goals first|(exfalso;omega)|(go_ret;exact⟨rfl,hb.out⟩)
 . have d6:decide (wr+r<n+k)=false:=decide_eq_false hs;rw[if_neg hs];go_enter Tryz.func24,Tryz.ntmps24
   go_wp2_with fail
   all_goals first|(exfalso;omega)|(go_ret;exact⟨rfl,hb.out⟩)
abbrev sV(n b:Int):Value:=.agg #[.int .i64 n,.int .i64 b]
def zas(an ab bn bb:Int):Bool:=decide (bn<an)||(an==bn&&decide (bb<ab))
theorem QT(an ab bn bb:Int)(w:World):
 Calls Tryz.prog 132 #[sV an ab,sV bn bb] w fun e w'=>e=.returned (.bool (zas an ab bn bb))/\Below w.heap.size w w':=by
 have hb:=zH ((zc w (.cells #[.int .i64 an,.int .i64 ab] 68)).alloc (by simp) (.cells #[.int .i64 bn,.int .i64 bb] 68));obtain⟨B,hB⟩:∃B,zas an ab bn bb=B:=⟨_,rfl⟩
 have HB:=zH hB;rw[hB];unfold zas at hB;by_cases h1:bn<an
 . have d1:decide (bn<an)=true:=decide_eq_true h1;rw[d1]at hB;subst hB;go_enter Tryz.func132,Tryz.ntmps132
   go_wp2_with fail
   go_ret
   exact⟨rfl,hb.out⟩
 . have d1:decide (bn<an)=false:=decide_eq_false h1;by_cases h2:an=bn
   . have d2:(an==bn)=true:=by simpa using h2
     rw[d1,d2]at hB;obtain⟨t,ht⟩:∃t,decide (bb<ab)=t:=⟨_,rfl⟩
     rw[ht]at hB;have hB2:B=t:=by rw[<-hB];rfl
     subst hB2;clear h1 h2 hB;go_enter Tryz.func132,Tryz.ntmps132
     go_wp2_with fail
     go_ret
     exact⟨rfl,hb.out⟩
   . have d2:(an==bn)=false:=by simpa using h2
     rw[d1,d2]at hB;subst hB;clear h1 h2;go_enter Tryz.func132,Tryz.ntmps132
     go_wp2_with fail
     go_ret
     exact⟨rfl,hb.out⟩
theorem jw(an ab bn bb:Int)(w:World):
 Calls Tryz.prog 79 #[sV an ab,sV bn bb] w fun e w'=>e=.returned (.bool (zas an ab bn bb))/\Below w.heap.size w w':=by
 have hb:=zH ((zc w (.cells #[.int .i64 an,.int .i64 ab] 68)).alloc (by simp) (.cells #[.int .i64 bn,.int .i64 bb] 68));obtain⟨B,hB⟩:∃B,zas an ab bn bb=B:=⟨_,rfl⟩
 rw[hB];unfold zas at hB;by_cases h2:an=bn
 . have d2:(an==bn)=true:=by simpa using h2
   have d1:decide (bn<an)=false:=decide_eq_false (by omega);rw[d1,d2]at hB;obtain⟨t,ht⟩:∃t,decide (bb<ab)=t:=⟨_,rfl⟩
   rw[ht]at hB;have hB2:B=t:=by rw[<-hB];rfl
   subst hB2;clear h2 hB;go_enter Tryz.func79,Tryz.ntmps79
   go_wp2_with fail
   go_ret
   exact⟨rfl,hb.out⟩
 . have d2:(an==bn)=false:=by simpa using h2
   obtain⟨t,ht⟩:∃t,decide (bn<an)=t:=⟨_,rfl⟩
   rw[d2,ht]at hB;have hB2:B=t:=by rw[<-hB];cases t<;>rfl
   subst hB2;clear h2 hB;go_enter Tryz.func79,Tryz.ntmps79
   go_wp2_with fail
   go_ret
   exact⟨rfl,hb.out⟩
def zgv(n k wr r:Int)(a b:Nat):Int×Int:=
 if qp n k wr r≠0 then(0,qp n k wr r) else if 2^n.toNat<=a\/2^n.toNat<=b then(0,3) else if(KW a:Int)<wr\/(KW b:Int)<r then(0,9) else(((KW (a &&& b):Nat):Int),0)
theorem zfZ{n k wr r:Int}(h:qp n k wr r=0):1<=n/\n<=10/\1<=k/\k<=n/\1<=wr/\wr<=n/\1<=r/\r<=n:=by
 rcases zbt n k wr r with⟨_,g⟩|⟨_,_,g⟩|⟨_,_,_,g⟩|⟨_,_,_,_,g⟩|⟨_,_,_,_,_,g⟩|⟨_,_,_,_,_,_,g⟩|⟨c1,c2,c3,c4,c5,_,_⟩
 . rw[h]at g;cases g
 . rw[h]at g;cases g
 . rw[h]at g;cases g
 . rw[h]at g;cases g
 . rw[h]at g;cases g
 . rw[h]at g;cases g
 . have b3:=vC c3;have b4:=vC c4;have b5:=vC c5;omega
theorem Ja{w w':World}{g o:Nat}(h:w'.heap[g]?=w.heap[g]?):w'.cell? ⟨g,o,none⟩=w.cell? ⟨g,o,none⟩:=by
 simp only[World.cell?,h]
theorem kI{w w':World}{g o:Nat}(h:w'.heap[g]?=w.heap[g]?):w'.frozen? ⟨g,o,none⟩=w.frozen? ⟨g,o,none⟩:=by
 simp only[World.frozen?,h]
theorem z7{w:World}{g j b o:Nat}{v c:Value}(h:b≠g)(hc:w.cell? ⟨b,o,none⟩=some c):(w.setCell ⟨g,j,none⟩ v).cell? ⟨b,o,none⟩=some c:=by
 rw[World.cell?_setCell_other _ _ _ _ (by intro e;injection e with e1 e2;first|exact h e1|exact h e1.symm)];exact hc
theorem jn{w:World}{g j b o:Nat}{v c:Value}{ob:Obj}(h:b≠g)(hc:w.cell? ⟨b,o,none⟩=some c):((w.setCell ⟨g,j,none⟩ v).alloc ob).drew.cell? ⟨b,o,none⟩=some c:=by
 have h1:=z7 (j:=j) (v:=v) h hc;exact((zc (w.setCell ⟨g,j,none⟩ v) ob).cell (p:=⟨b,o,none⟩) (World.block_lt_of_cell? _ _ h1)).trans h1
theorem Kept.cell{Av:Nat->Prop}{base:Nat}{w w':World}(h:Kept Av base w w'){g o:Nat}{c:Value}(hA:Av g)(hc:w.cell? ⟨g,o,none⟩=some c):w'.cell? ⟨g,o,none⟩=some c:=by
 rw[Ja (h.blk g hA)];exact hc
theorem Kept.reads{Av:Nat->Prop}{base:Nat}{w w':World}(h:Kept Av base w w'){ao:Option Addr}{xs:List Value}(hA:∀a,ao=some a->Av a.block)(hR:Reads w ao xs):Reads w' ao xs:=by
 intro j u hu;obtain⟨b,o,rfl,hc⟩:=hR j u hu;exact⟨b,o,rfl,h.cell (hA _ rfl) hc⟩
theorem Kept.narrow{Av Av':Nat->Prop}{base:Nat}{w w':World}(h:Kept Av' base w w')(hs:∀x,Av x->Av' x):Kept Av base w w':=⟨h.bel,fun g hg=>h.blk g (hs g hg)⟩
def WideA(Av:Nat->Prop)(lo hi:Nat)(x:Nat):Prop:=Av x\/(lo<=x/\x<hi)
theorem WideA.old{Av:Nat->Prop}{lo hi x:Nat}(h:Av x):WideA Av lo hi x:=.inl h
theorem WideA.new{Av:Nat->Prop}{lo hi x:Nat}(h1:lo<=x)(h2:x<hi):WideA Av lo hi x:=.inr ⟨h1,h2⟩
theorem Shf.wide{w w':World}{base:Nat}{Av:Nat->Prop}{n k wr r b nb:Nat}{V:Nat->Nat->Value}{st:St}(h:Shf w base Av n k wr r b nb V st)(hb:Below w.heap.size w w'):
 Shf w' base (WideA Av w.heap.size w'.heap.size) n k wr r b nb V st:=by
 have h':=h.below hb;refine⟨h'.hb,h'.hst,h'.nodes,h'.row,h'.ap,h'.vb,h'.nbb,fun g hg=>?_,fun i key g hi hk hv hA=>?_,h'.ok⟩
 . rcases hg with hg|hg
   . exact h'.av g hg
   . have h1:=h.blt;have h2:=h.nodes.lt.2;exact⟨hg.2,by omega,by omega⟩
 . rcases hA with hA|hA
   . exact h.avv i key g hi hk hv hA
   . have:=((h.row i key hi hk).lt g hv).2;omega
theorem Shf.narrow{w:World}{base:Nat}{Av Av':Nat->Prop}{n k wr r b nb:Nat}{V:Nat->Nat->Value}{st:St}(h:Shf w base Av' n k wr r b nb V st)(hs:∀x,Av x->Av' x):
 Shf w base Av n k wr r b nb V st:=⟨h.hb,h.hst,h.nodes,h.row,h.ap,h.vb,h.nbb,fun g hg=>h.av g (hs g hg),fun i key g hi hk hv hA=>h.avv i key g hi hk hv (hs g hA),h.ok⟩
abbrev tellV(t:Tl):Value:=.agg #[.string t.tx,.int .i64 (t.at':Int),.int .i64 0,.int .i64 (t.mn:Int)]
abbrev deedV(kind key m:Int)(text:ByteArray):Value:=.agg #[.int .i64 kind,.int .i64 key,.int .i64 m,.string text]
def kJ(base:Nat)(Av:Nat->Prop)(n k wr r b nb:Nat)(R:St×Tl×Nat)(w:World)(e:Ending)(w':World):Prop:=
 e=.returned (.tuple #[tellV R.2.1,.int .i64 (R.2.2:Nat)])/\(∃V',Shf w' base Av n k wr r b nb V' R.1)/\Kept Av base w w'
theorem Shf.aside{w:World}{base:Nat}{Av:Nat->Prop}{n k wr r b nb:Nat}{V:Nat->Nat->Value}{st:St}(h:Shf w base Av n k wr r b nb V st){R:Nat}(hR:Av R)(j:Nat)(v:Value):
 Shf (w.setCell ⟨R,j,none⟩ v) base Av n k wr r b nb V st:=by
 have hg:=zO w R j v;have hne:=h.av R hR;refine⟨h.hb,?_,World.ownsRow.kept h.nodes hg (.inr fun e=>by injection e with e;exact hne.2.2 e.symm),?_,h.ap,h.vb,h.nbb,fun g hg2=>⟨Nat.lt_of_lt_of_le (h.av g hg2).1 hg.size,(h.av g hg2).2⟩,h.avv,h.ok⟩
 . rw[zf v hne.2.1];exact h.hst
 . intro i key hi hk;exact(h.row i key hi hk).kept hg (.inr fun e=>h.avv i key R hi hk e hR)
theorem Kept.aside{Av:Nat->Prop}{base:Nat}{w w':World}(h:Kept Av base w w'){R:Nat}(hR:∀g,Av g->g≠R)(hb:base<=R)(j:Nat)(v:Value):Kept Av base w (w'.setCell ⟨R,j,none⟩ v):=
 ⟨zk h.bel hb v,fun g hg=>by rw[zf v (fun e:R=g=>hR g hg e.symm)];exact h.blk g hg⟩
theorem yg{w:World}{R:Nat}{x0 x1 x2 x3:Value}{t:TypeId}{fr:Nat×Nat}(h:w.heap[R]?=some (.cells #[x0,x1,x2,x3] t fr))(a b c d:Value):
 ((((w.setCell ⟨R,0,none⟩ a).setCell ⟨R,1,none⟩ b).setCell ⟨R,2,none⟩ c).setCell ⟨R,3,none⟩ d).cell? ⟨R,0,none⟩=some a/\
 ((((w.setCell ⟨R,0,none⟩ a).setCell ⟨R,1,none⟩ b).setCell ⟨R,2,none⟩ c).setCell ⟨R,3,none⟩ d).cell? ⟨R,1,none⟩=some b/\
 ((((w.setCell ⟨R,0,none⟩ a).setCell ⟨R,1,none⟩ b).setCell ⟨R,2,none⟩ c).setCell ⟨R,3,none⟩ d).cell? ⟨R,2,none⟩=some c/\
 ((((w.setCell ⟨R,0,none⟩ a).setCell ⟨R,1,none⟩ b).setCell ⟨R,2,none⟩ c).setCell ⟨R,3,none⟩ d).cell? ⟨R,3,none⟩=some d:=by
 have h2:=heap_set d (j:=3) (heap_set c (j:=2) (heap_set b (j:=1) (heap_set a (j:=0) h)));refine⟨?_,?_,?_,?_⟩<;>(rw[zd h2];rfl)
theorem Qm{base:Nat}{Av Av':Nat->Prop}{n k wr r b nb:Nat}{V:Nat->Nat->Value}{st:St}{w w':World}(h:Shf w' base Av' n k wr r b nb V st)(hk:Kept Av base w w')(hs:∀x,Av x->Av' x){R:Nat}(hR:Av' R)(hne:∀g,Av g->g≠R)(hb:base<=R)(x0 x1 x2 x3:Value):
 (∃V',Shf ((((w'.setCell ⟨R,0,none⟩ x0).setCell ⟨R,1,none⟩ x1).setCell ⟨R,2,none⟩ x2).setCell ⟨R,3,none⟩ x3) base Av n k wr r b nb V' st)/\Kept Av base w ((((w'.setCell ⟨R,0,none⟩ x0).setCell ⟨R,1,none⟩ x1).setCell ⟨R,2,none⟩ x2).setCell ⟨R,3,none⟩ x3):=
 ⟨⟨V,((((h.aside hR 0 x0).aside hR 1 x1).aside hR 2 x2).aside hR 3 x3).narrow hs⟩,(((hk.aside hne hb 0 x0).aside hne hb 1 x1).aside hne hb 2 x2).aside hne hb 3 x3⟩
theorem Jb(w:World)(o:Obj)(r:Option Nat):w.grownBy (w.alloc o) r:=
 ⟨rfl,rfl,rfl,by simp,fun k hk _=>(zc w o).block k hk⟩
theorem zcY(w:World)(base a:Nat)(p:ByteArray)(hb:base<=w.heap.size):(w.alloc (.cells #[.int .i64 (a:Int),.int .i64 0,.string p] 106)).ownsRow base 106 3 (.slice (some ⟨w.heap.size,0,none⟩) 1 1) 1 (zw [(a,p)]):=
 ⟨by rfl,.inr ⟨w.heap.size,1,#[.int .i64 (a:Int),.int .i64 0,.string p],rfl,hb,heap_alloc_new w _,Nat.le_refl _,by unfold maxLen;omega,by rfl,by rfl⟩⟩
theorem Yi{a k key:Nat}{text:ByteArray}(hs:text.size<=60)(hk:1<=k)(ha:1<=a):∀(U:List Nat) (st:St),Okst st->a<=st.wr->Okst (U.foldl (putS a k text key) st)/\(U.foldl (putS a k text key) st).wr=st.wr/\(U.foldl (putS a k text key) st).dn=st.dn
 |[],st,h,_=>⟨h,rfl,rfl⟩
 |i::t,st,h,h2=>Yi hs hk ha t (putS a k text key st i) (h.put i key a ha h2 (kM _ _ _ hs hk)) h2
theorem Shf.congr{w:World}{base:Nat}{Av:Nat->Prop}{n k wr r b nb:Nat}{V:Nat->Nat->Value}{st st':St}(h:Shf w base Av n k wr r b nb V st)(h1:∀i key,i<n->key<3->st'.kp i key=st.kp i key)(h2:∀i,i<n->st'.dn i=st.dn i)(h3:st'.wr=st.wr)(hok:Okst st'):
 Shf w base Av n k wr r b nb V st':=
 ⟨h.hb,by rw[h3];exact h.hst,h.nodes.congr fun j hj=>by unfold jc;rw[h2 (j / 4) (by omega)],fun i key hi hk=>by rw[h1 i key hi hk];exact h.row i key hi hk,h.ap,h.vb,h.nbb,h.av,h.avv,hok⟩
theorem Shf.poke{w w1:World}{base:Nat}{Av:Nat->Prop}{n k wr r b nb:Nat}{V:Nat->Nat->Value}{st:St}(h:Shf w base Av n k wr r b nb V st){i key:Nat}(hi:i<n)(hk:key<3)
 {l:List Kp}(hg:w.grownBy w1 (V i key).ownBlock)(hown:w1.ownsRow base 106 3 (V i key) l.length (zw l))(hok:Okst (st.set i key l)):
 Shf w1 base Av n k wr r b nb V (st.set i key l)/\Kept Av base w w1:=by
 have hbl:=h.nodes.lt;have hbb:=h.blt;have hbase:base<=w.heap.size:=Nat.le_trans h.hb (Nat.le_of_lt hbb);have hvi:=h.vb i key hi hk;have hri:=(h.row i key hi hk).lt;have hN1:Own w1 base 187 nb (n*4) (n*4) (jc st.dn V):=World.ownsRow.kept h.nodes hg (.inr fun e=>hvi.2 e.symm);refine⟨⟨h.hb,zY hg h.hst (fun e=>hvi.1 e.symm),hN1,?_,h.ap,h.vb,h.nbb,fun g hg2=>⟨Nat.lt_of_lt_of_le (h.av g hg2).1 hg.size,(h.av g hg2).2⟩,h.avv,hok⟩,?_⟩
 . intro j key' hj hk';by_cases he:j=i/\key'=key
   . rw[he.1,he.2,St.set_at];exact hown
   . rw[St.set_far _ _ (by omega)];refine(h.row j key' hj hk').kept hg ?_;cases hu:(V j key').ownBlock with
     |none=>exact .inl rfl
     |some g=>exact .inr fun e=>h.ap i key j key' hi hk hj hk' (by omega) g e.symm hu
 . refine⟨(Below.refl base w).grown hg hbase fun g hg=>(hri g hg).1,fun g hA=>hg.block g (h.av g hA).1 (fun e=>h.avv i key g hi hk e.symm hA)⟩
theorem Shf.put_nil{w:World}{base:Nat}{Av:Nat->Prop}{n k wr r b nb:Nat}{V:Nat->Nat->Value}{st:St}(h:Shf w base Av n k wr r b nb V st){i key:Nat}(hi:i<n)(hk:key<3):
 Shf (w.setCell ⟨nb,i*4+1+key,none⟩ (.slice none 0 0)) base Av n k wr r b nb (zaV V i key (.slice none 0 0)) (st.set i key [])/\Kept Av base w (w.setCell ⟨nb,i*4+1+key,none⟩ (.slice none 0 0)):=by
 have hS:=h.nodes.store (i*4+1+key) (.slice none 0 0);have hbl:=h.nodes.lt;refine⟨⟨h.hb,?_,hS.1.congr fun j _=>VK _ _ _ _ _ hk _,?_,?_,?_,h.nbb,fun g hg2=>⟨Nat.lt_of_lt_of_le (h.av g hg2).1 hS.2.size,(h.av g hg2).2⟩,?_,h.ok.set i key List.Pairwise.nil (fun x hx=>by simp at hx)⟩,zk (Below.refl _ _) hbl.1 _,fun g hA=>?_⟩
 . rw[zf _ (fun e:nb=b=>h.nbb e.symm)];exact h.hst
 . intro j key' hj hk';by_cases he:j=i/\key'=key
   . rw[he.1,he.2,vE,St.set_at];exact World.ownsRow_nil _ _ _ _
   . rw[qs _ _ (by omega),St.set_far _ _ (by omega)];exact(h.row j key' hj hk').kept hS.2 (.inr (h.vb j key' hj hk').2)
 . intro j key' j2 key2 hj hk' hj2 hk2 hne g hg1 hg2;by_cases he:j=i/\key'=key
   . rw[he.1,he.2,vE]at hg1;cases hg1
   . rw[qs _ _ (by omega)]at hg1;by_cases he2:j2=i/\key2=key
     . rw[he2.1,he2.2,vE]at hg2;cases hg2
     . rw[qs _ _ (by omega)]at hg2;exact h.ap j key' j2 key2 hj hk' hj2 hk2 hne g hg1 hg2
 . intro j key' hj hk';by_cases he:j=i/\key'=key
   . rw[he.1,he.2,vE];exact⟨(by intro e;cases e),(by intro e;cases e)⟩
   . rw[qs _ _ (by omega)];exact h.vb j key' hj hk'
 . intro j key' g hj hk' hgv;by_cases he:j=i/\key'=key
   . rw[he.1,he.2,vE]at hgv;cases hgv
   . rw[qs _ _ (by omega)]at hgv;exact h.avv j key' g hj hk' hgv
 . rw[zf _ (fun e:nb=g=>(h.av g hA).2.2 e.symm)]
theorem Shf.put_lose{w:World}{base:Nat}{Av:Nat->Prop}{n k wr r b nb:Nat}{V:Nat->Nat->Value}{st:St}(h:Shf w base Av n k wr r b nb V st){i:Nat}(hi:i<n):
 (∃V',Shf (((w.setCell ⟨nb,i*4+1,none⟩ (.slice none 0 0)).setCell ⟨nb,i*4+1+1,none⟩ (.slice none 0 0)).setCell ⟨nb,i*4+1+2,none⟩ (.slice none 0 0)) base Av n k wr r b nb V' (st.lose i))/\
 Kept Av base w (((w.setCell ⟨nb,i*4+1,none⟩ (.slice none 0 0)).setCell ⟨nb,i*4+1+1,none⟩ (.slice none 0 0)).setCell ⟨nb,i*4+1+2,none⟩ (.slice none 0 0)):=by
 have h1:=h.put_nil hi (show 0<3 by omega);have h2:=h1.1.put_nil hi (show 1<3 by omega);have h3:=h2.1.put_nil hi (show 2<3 by omega);refine⟨⟨_,h3.1.congr (fun j key hj hk=>?_) (fun _ _=>rfl) rfl (h.ok.lose i)⟩,h1.2.trans (h2.2.trans h3.2)⟩;show(if j=i then[] else st.kp j key)=_;by_cases hj2:j=i
 . rw[if_pos hj2,hj2];have hk3:key=0\/key=1\/key=2:=by omega
   rcases hk3 with rfl|rfl|rfl
   . rw[St.set_far _ _ (by omega),St.set_far _ _ (by omega),St.set_at]
   . rw[St.set_far _ _ (by omega),St.set_at]
   . rw[St.set_at]
 . rw[if_neg hj2,St.set_far _ _ (by omega),St.set_far _ _ (by omega),St.set_far _ _ (by omega)]
theorem y9{w:World}{ao:Option Addr}{l:List Kp}(h:Reads w ao (zw l)){k:Nat}(hk:k<l.length):
 ∃b o,ao=some ⟨b,o,none⟩/\w.cell? ⟨b,o+k*3,none⟩=some (.int .i64 ((l[k]).1:Int))/\w.cell? ⟨b,o+k*3+1,none⟩=some (.int .i64 0)/\w.cell? ⟨b,o+k*3+2,none⟩=some (.string (l[k]).2):=by
 obtain⟨g1,g2,g3⟩:=JP hk;obtain⟨b,o,rfl,c1⟩:=h _ _ g1;obtain⟨b2,o2,e2,c2⟩:=h _ _ g2;obtain⟨b3,o3,e3,c3⟩:=h _ _ g3;cases e2;cases e3;exact⟨b,o,rfl,c1,by rw[Nat.add_assoc];exact c2,by rw[Nat.add_assoc];exact c3⟩
def zgd(l:List Kp)(a:Nat)(r:Int):Prop:=(∃(j:Nat) (x:Kp),l[j]?=some x/\x.1=a/\r=j/\vu l a=x.2)\/((∀x∈l,x.1≠a)/\r= -1/\vu l a=ByteArray.empty)
theorem ze5{l:List Kp}{a j:Nat}{x:Kp}(h:l[j]?=some x)(hx:x.1=a)(hno:∀i y,i<j->l[i]?=some y->y.1≠a):vu l a=x.2:=by
 have:l.find? (fun x=>x.1==a)=some x:=by
  induction l generalizing j with
  |nil=>simp at h
  |cons y t ih=>
   cases j with
   |zero=>simp at h;subst h;simp[hx]
   |succ j=>
    have hy:=hno 0 y (by omega) rfl;rw[List.find?_cons,show(y.1==a)=false from by simpa using hy];exact ih (by simpa using h) (fun i z hi hz=>hno (i+1) z (by omega) (by simpa using hz))
 unfold vu;rw[this]
theorem ze6{l:List Kp}{a:Nat}(h:∀x∈l,x.1≠a):vu l a=ByteArray.empty:=by
 have:l.find? (fun x=>x.1==a)=none:=by
  rw[List.find?_eq_none];intro x hx;simpa using h x hx
 unfold vu;rw[this]
theorem zdK(x:Nat)(s:ByteArray)(a bb:Nat)(W:World)(c0:W.cell? ⟨bb,0,none⟩=some (.int .i64 (a:Int)))(c1:W.cell? ⟨bb,1,none⟩=some (.int .i64 0)):
 Calls Tryz.prog 169 #[.agg #[.int .i64 (x:Int),.int .i64 0,.string s],.pointer (some ⟨bb,0,none⟩)] W (fun e w'=>e=.returned (.bool (decide (x=a)))/\Below W.heap.size W w'):=by
 have hlt:=World.block_lt_of_cell? W _ c0;have hba:=zc W (.cells #[.int .i64 (x:Int),.int .i64 0,.string s] 106);have e0:=(hba.cell (p:=⟨bb,0,none⟩) hlt).trans c0;have e1:=(hba.cell (p:=⟨bb,1,none⟩) hlt).trans c1;clear hba;by_cases h:x=a
 . have t:((x:Int)==(a:Int))=true:=by simp;omega
   have d:decide (x=a)=true:=by simpa using h
   rw[d];have hb:=zH (zc W (.cells #[.int .i64 (x:Int),.int .i64 0,.string s] 106));clear h d;go_enter Tryz.func169,Tryz.ntmps169
   go_wp2_with fail
   go_ret
   exact⟨by simp,hb.out⟩
 . have t:((x:Int)==(a:Int))=false:=by simp;omega
   have d:decide (x=a)=false:=by simpa using h
   rw[d];have hb:=zH (zc W (.cells #[.int .i64 (x:Int),.int .i64 0,.string s] 106));clear h d;go_enter Tryz.func169,Tryz.ntmps169
   go_wp2_with fail
   go_ret
   exact⟨by simp,hb.out⟩
theorem zdL(x c:Value)(W:World):(callFunc 169 #[x,c]).run Tryz.prog W=.ok (.enter 169 #[x,c]) W:=by kernel_rfl
theorem zaU(l:List Kp)(n a bb:Nat)(ao:Option Addr)(cap:Nat)(w:World)(hl:l.length=n)(hn:n<=9223372036854775807)(hR:Hid (Reads w ao (zw l)))
 (c0:w.cell? ⟨bb,0,none⟩=some (.int .i64 (a:Int)))(c1:w.cell? ⟨bb,1,none⟩=some (.int .i64 0)):
 Calls Tryz.prog 168 #[.slice ao n cap,.func (.func 169) #[] #[.pointer (some ⟨bb,0,none⟩)]] w (fun e w'=>∃r,e=.returned (.int .i64 r)/\zgd l a r/\Below w.heap.size w w'):=by
 have HL:=zH hl;have hfn:=zdL;have HBB:Hid (bb<w.heap.size):=zH (World.block_lt_of_cell? w _ c0);have HC0:=zH c0;have HC1:=zH c1;clear hl c0 c1;go_enter Tryz.func168,Tryz.ntmps168
 go_wp2_with fail
 go_loopw [8] (fun vi wr=>∃k:Nat,vi=.int .i64 k/\k<=n/\Hid (∀i y,i<k->l[i]?=some y->y.1≠a)/\Hid (Below w.heap.size w wr)) (fun vi _=>n-(intOf vi).toNat)
 case atStart=>exact⟨0,rfl,by omega,zH (by intro j y hj;omega),zH (Below.refl _ _)⟩
 case round=>
  obtain⟨k,rfl,hk,hno,HB⟩:=hrel;obtain⟨wo,rfl⟩:∃wo,wo=wr:=⟨_,rfl⟩
  by_cases hkl:k<n
  . obtain⟨b,o,rfl,x0,x1,x2⟩:=y9 (hR.out.below HB.out) (k:=k) (by rw[HL.out];exact hkl);obtain⟨x,hx⟩:∃x,l[k]'(by rw[HL.out];exact hkl)=x:=⟨_,rfl⟩
    have HX:Hid (l[k]?=some x):=zH (by rw[List.getElem?_eq_getElem (by rw[HL.out];exact hkl),hx]);rw[hx]at x0 x2;obtain⟨p,s⟩:=x;have C:=zH (zdK p s a bb wo ((HB.out.cell (p:=⟨bb,0,none⟩) HBB.out).trans HC0.out) ((HB.out.cell (p:=⟨bb,1,none⟩) HBB.out).trans HC1.out));clear hx;by_cases h:p=a
    . have d:decide (p=a)=true:=by simpa using h
      rw[d]at C;have H:=zH h;clear h d;go_wp2_with fail
      (with_reducible refine C.out.mono ?_)
      rintro e w' ⟨rfl,hb⟩;have HB1:=zH (HB.out.trans (hb.mono HB.out.size));clear hb;go_wp2_with fail
      go_ret
      exact⟨_,rfl,.inl ⟨k,(p,s),HX.out,H.out,rfl,ze5 HX.out H.out hno.out⟩,HB1.out⟩
    . have d:decide (p=a)=false:=by simpa using h
      rw[d]at C;have H:=zH h;clear h d;go_wp2_with fail
      (with_reducible refine C.out.mono ?_)
      rintro e w' ⟨rfl,hb⟩;have HB1:=zH (HB.out.trans (hb.mono HB.out.size));clear hb;go_wp2_with fail
      go_roundw
      case rel=>exact⟨k+1,by go_num,by omega,zH (by
       intro i y hi hy;by_cases he:i=k
       . subst he;rw[HX.out]at hy;cases hy;exact H.out
       . exact hno.out i y (by omega) hy),HB1⟩
      case measure=>simp[intOf];omega
  . obtain rfl:n=k:=by omega
    go_wp2_with fail
    go_ret
    have hall:∀x∈l,x.1≠a:=by
     intro x hx;obtain⟨j,hj⟩:=List.getElem?_of_mem hx;have:=(List.getElem?_eq_some_iff.1 hj).1;exact hno.out j x (by have:=HL.out;omega) hj
    exact⟨_,rfl,.inr ⟨hall,rfl,ze6 hall⟩,HB.out⟩
def pb(s:ByteArray)(w:World)(e:Ending)(w':World):Prop:=∃b,e=.returned (.tuple #[.string s,.bool b])/\Below w.heap.size w w'
theorem Xj(l:List Kp)(n a:Nat)(ao:Option Addr)(cap:Nat)(w:World)(hl:l.length=n)(hn:n<=9223372036854775807)(hR:Hid (Reads w ao (zw l))):
 Calls Tryz.prog 150 #[.slice ao n cap,.agg #[.int .i64 (a:Int),.int .i64 0]] w (pb (vu l a) w):=by
 obtain⟨W1,hW1⟩:∃W1,w.alloc (.cells #[.int .i64 (a:Int),.int .i64 0] 68)=W1:=⟨_,rfl⟩
 have hbel:Below w.heap.size w W1:=by rw[<-hW1];exact zc _ _
 have c0:W1.cell? ⟨w.heap.size,0,none⟩=some (.int .i64 (a:Int)):=by rw[<-hW1];simp[World.cell?_alloc_new]
 have c1:W1.cell? ⟨w.heap.size,1,none⟩=some (.int .i64 0):=by rw[<-hW1];simp[World.cell?_alloc_new]
 have C:=zH (zaU l n a w.heap.size ao cap W1 hl hn (zH (hR.out.below hbel)) c0 c1);have HB:=zH hbel;have HL:=zH hl;clear hbel hl c0 c1;go_enter Tryz.func150,Tryz.ntmps150
 go_wp2_with fail
 (with_reducible refine C.out.mono ?_)
 rintro e w2 ⟨r,rfl,hr,hb⟩;have HB2:=zH (HB.out.trans (hb.mono HB.out.size));rcases hr with⟨j,x,hx,hxa,rfl,hp⟩|⟨_,rfl,hp⟩
 . have hj:=(List.getElem?_eq_some_iff.1 hx).1;obtain⟨b,o,rfl,x0,x1,x2⟩:=y9 (hR.out.below HB2.out) hj;rw[(List.getElem?_eq_some_iff.1 hx).2]at x0 x2;have HP:=zH hp;have hjn:j<n:=by have:=HL.out;omega
   clear hb hp hx hxa hj C;go_wp2_with fail
   go_ret2
   exact⟨true,by rw[HP.out];rfl,HB2.out⟩
 . have HP:=zH hp;clear hb hp C;go_wp2_with fail
   go_ret2
   exact⟨false,by rw[HP.out];rfl,HB2.out⟩
end Go.Proofs.YtmgfbmkfomebcaaGreatDoor
