/- desk.Run. -/
import Derived.Test.YtmgfbmkfomebcaaGreatDoorDkM41xDeskJ
import Derived.Test.YtmgfbmkfomebcaaGreatDoorDkM22
import Derived.Test.YtmgfbmkfomebcaaGreatDoorDkM37xDeskL
import Derived.Test.YtmgfbmkfomebcaaGreatDoorDkM33
import Derived.Test.YtmgfbmkfomebcaaGreatDoorDkM29
set_option linter.unusedVariables false
set_option linter.unusedSimpArgs false
set_option maxRecDepth 100000
set_option maxHeartbeats 8000000
namespace Go.Proofs.YtmgfbmkfomebcaaGreatDoor
open Go.RowKit
noncomputable def zbQ(acc:DS×List ByteArray)(x:ByteArray):DS×List ByteArray:=
 if x.toList.isEmpty then acc else((QS acc.1 (zL x)).1,acc.2++[(QS acc.1 (zL x)).2])
def DS0:DS:=⟨4,2,3,3,St0⟩
noncomputable def qQ(l:List ByteArray):DS×List ByteArray:=l.foldl zbQ (DS0,[])
def yD(s:ByteArray):List ByteArray:=Lib.splitB dkNl 0 (Lib.countB s dkNl) s
theorem kZ(s:ByteArray):(yD s).length=Lib.countB s dkNl+1:=Lib.splitB_all dkNl (by decide) 0 _ s rfl
theorem Vo{l:List ByteArray}{j:Nat}(h:j<l.length):qQ (l.take (j+1))=zbQ (qQ (l.take j)) l[j]:=by
 unfold qQ;rw[List.take_succ_eq_append_getElem h,List.foldl_append];rfl
theorem Shf.grown{w w':World}{base:Nat}{Av:Nat->Prop}{n k wr r b nb:Nat}{V:Nat->Nat->Value}{st:St}{row:Option Nat}(h:Shf w base Av n k wr r b nb V st)(hg:w.grownBy w' row)(hr:∀g,row=some g->Av g):
 Shf w' base (WideA Av w.heap.size w'.heap.size) n k wr r b nb V st:=by
 have hb:some b≠row:=fun e=>(h.av b (hr b e.symm)).2.1 rfl
 have hn:some nb≠row:=fun e=>(h.av nb (hr nb e.symm)).2.2 rfl
 refine⟨h.hb,zY hg h.hst hb,World.ownsRow.kept h.nodes hg (.inr hn),?_,h.ap,h.vb,h.nbb,?_,?_,h.ok⟩
 . intro i key hi hk;refine(h.row i key hi hk).kept hg ?_;cases hv:(V i key).ownBlock with
   |none=>exact .inl rfl
   |some g=>exact .inr fun e=>h.avv i key g hi hk hv (hr g e.symm)
 . intro g hA;rcases hA with hA|hA
   . exact⟨Nat.lt_of_lt_of_le (h.av g hA).1 hg.size,(h.av g hA).2⟩
   . have h1:=h.blt;have h2:=h.nodes.lt.2;exact⟨hA.2,by omega,by omega⟩
 . intro i key g hi hk hv hA;rcases hA with hA|hA
   . exact h.avv i key g hi hk hv hA
   . have:=((h.row i key hi hk).lt g hv).2;omega
theorem HasDsk.grown{w w':World}{base:Nat}{Av:Nat->Prop}{D:Nat}{s:DS}{row:Option Nat}(h:HasDsk w base Av D s)(hg:w.grownBy w' row)(hr:∀g,row=some g->Av g):HasDsk w' base (WideA Av w.heap.size w'.heap.size) D s:=by
 obtain⟨b,nb,V,h⟩:=h;have hD:=(Array.getElem?_eq_some_iff.1 h.cell).1;refine⟨b,nb,V,h.ok,(h.st.grown hg fun g hg=>.inl (hr g hg)).narrow ?_,zY hg h.cell (fun e=>h.nD (hr D e.symm)),h.bD,?_⟩
 . intro x hx;rcases hx with(hx|hx)|hx
   . exact .inl (.inl hx)
   . exact .inr hx
   . exact .inl (.inr hx)
 . intro hx;rcases hx with hx|hx
   . exact h.nD hx
   . omega
theorem zbR{Av:Nat->Prop}{base:Nat}{w w':World}(hk:Kept Av base w w'){bs e size:Nat}{v:Value}{n:Nat}{xs:List Value}(h:w.ownsRow bs e size v n xs)(hA:∀g,v.ownBlock=some g->Av g):w'.ownsRow bs e size v n xs:=by
 refine⟨h.1,?_⟩;rcases h.2 with hn|⟨g,cap,cur,rfl,hb,hg,rest⟩
 . exact .inl hn
 . exact .inr ⟨g,cap,cur,rfl,hb,by rw[hk.blk g (hA g rfl)];exact hg,rest⟩
theorem Yt:yb Tryz.prog 9 (.string ByteArray.empty) 1 16:=yf (by kernel_rfl) rfl (by omega)
def vN(script:ByteArray)(w:World)(e:Ending)(w':World):Prop:=
 if 4096<script.size\/60<(yD script).length then e=.returned (.tuple #[.slice none 0 0,.int .i64 2])/\Below w.heap.size w w'
 else∃v,e=.returned (.tuple #[v,.int .i64 0])/\w'.ownsRow w.heap.size 9 1 v (qQ (yD script)).2.length ((qQ (yD script)).2.map Value.string)/\Below w.heap.size w w'
theorem Yu(s:ByteArray)(w:World)(hW:DkW w)(hs:s.size<=1048576)(hl:4096<s.size\/60<(yD s).length):
 Calls Tryz.prog 4 #[.string s] w fun e w'=>e=.returned (.tuple #[.slice none 0 0,.int .i64 2])/\Below w.heap.size w w':=by
 obtain⟨mx,hmx⟩:=hW.max;have CS:=zH (QL s mx w (by omega) hmx);rw[kZ]at hl;obtain⟨n,hn⟩:∃n,Lib.countB s dkNl+1=n:=⟨_,rfl⟩
 rw[hn]at CS hl;obtain⟨L,hL⟩:∃L,Lib.splitB dkNl 0 (Lib.countB s dkNl) s=L:=⟨_,rfl⟩
 rw[hL]at CS;clear hL hn;by_cases h1:4096<s.size
 . have d1:(4096:Int)<(s.size:Int):=by omega
   go_enter Tryz.func4,Tryz.ntmps4
   go_wp2_with fail
   (with_reducible refine CS.out.mono ?_);rintro e w1 ⟨rfl,rfl⟩
   go_wp2_with fail
   go_ret2
   exact⟨rfl,zc _ _⟩
 . have d1:¬(4096:Int)<(s.size:Int):=by omega
   have d2:(60:Int)<(n:Int):=by omega
   go_enter Tryz.func4,Tryz.ntmps4
   go_wp2_with fail
   (with_reducible refine CS.out.mono ?_);rintro e w1 ⟨rfl,rfl⟩
   go_wp2_with fail
   go_ret2
   exact⟨rfl,zc _ _⟩
theorem Yv{w wr:World}{L:List ByteArray}{g:Nat}(h:wr.heap[g]?=some (.cells (L.map Value.string).toArray 9 (0,0))){j:Nat}(hj:j<L.length):wr.cell? ⟨g,j,none⟩=some (.string L[j]):=by
 have:=zd h j;rw[this];simp[hj]
theorem XP(s:ByteArray)(w:World)(hW:DkW w)(hs:s.size<=4096)(hl:(yD s).length<=60):
 Calls Tryz.prog 4 #[.string s] w fun e w'=>∃v,e=.returned (.tuple #[v,.int .i64 0])/\w'.ownsRow w.heap.size 9 1 v (qQ (yD s)).2.length ((qQ (yD s)).2.map Value.string)/\Below w.heap.size w w':=by
 obtain⟨mx,hmx⟩:=hW.max;have CS:=zH (QL s mx w (by omega) hmx);have hsz:∀x∈yD s,x.size<=4294967296:=fun x hx=>by have:=jO _ _ _ hx;omega
 have hln:=kZ s;obtain⟨n,hn⟩:∃n,Lib.countB s dkNl+1=n:=⟨_,rfl⟩
 rw[hn]at CS hln;rw[hln]at hl;have eL:Lib.splitB dkNl 0 (Lib.countB s dkNl) s=yD s:=rfl;rw[eL]at CS;obtain⟨L,hL⟩:∃L,yD s=L:=⟨_,rfl⟩
 rw[hL]at CS hsz hln ⊢;have d1:¬(4096:Int)<(s.size:Int):=by omega
 have d2:¬(60:Int)<(n:Int):=by omega
 have HSZ:=zH hsz;have HLN:=zH hln;have hw8:=hW.low;clear hL hn hmx hsz hln;go_enter Tryz.func4,Tryz.ntmps4
 go_wp2_with fail
 (with_reducible refine CS.out.mono ?_);rintro e w1 ⟨rfl,hw1⟩
 have hh1:w1.heap[w.heap.size]?=some (.cells (L.map Value.string).toArray 9 (0,0)):=by rw[hw1];exact heap_alloc_new _ _
 have hb1:Below w.heap.size w w1:=by rw[hw1];exact zc _ _
 have hl1:w.heap.size<w1.heap.size:=by rw[hw1];simp
 have CN:Hid (Calls Tryz.prog 8 #[.agg #[.int .i64 4,.int .i64 2,.int .i64 3,.int .i64 3]] w1 (JY w.heap.size (fun g=>g=w.heap.size) 4 2 3 3 w1)):=
  zH (VO 4 2 3 3 w.heap.size (fun g=>g=w.heap.size) w1 (by decide) (by omega) hb1.size (fun g hg=>by rw[hg];exact hl1))
 unfold JY at CN;clear hw1 CS;go_wp2_with fail
 (with_reducible refine CN.out.mono ?_);rintro e w2 ⟨b,nb,V,rfl,hS,hb2⟩
 have hh2:=(hb2.block w.heap.size hl1).trans hh1;have hl2:w.heap.size<w2.heap.size:=Nat.lt_of_lt_of_le hl1 hb2.size;have hb12:Below w.heap.size w w2:=hb1.trans (hb2.mono hb1.size);obtain⟨D,hD⟩:∃D,w2.heap.size=D:=⟨_,rfl⟩
 obtain⟨W3,hW3⟩:∃W3,w2.alloc (.cells #[.pointer (some ⟨b,0,none⟩)] 36)=W3:=⟨_,rfl⟩
 have hb3:Below w2.heap.size w2 W3:=by rw[<-hW3];exact zc _ _
 have hl3:D<W3.heap.size:=by rw[<-hW3,<-hD];simp
 have e0:(qQ (L.take 0)).1=DS0:=by rw[List.take_zero];rfl
 have hd3:HasDsk W3 w.heap.size (fun g=>g=w.heap.size) D (qQ (L.take 0)).1:=by
  rw[e0];refine⟨b,nb,V,⟨by decide,by decide,by decide⟩,?_,?_,?_,?_⟩
  . refine(hS.wide hb3).narrow ?_;intro x hx;rcases hx with hx|hx
    . exact .inl hx
    . exact .inr ⟨by rw[hx,hD];exact Nat.le_refl _,by rw[hx];exact hl3⟩
  . rw[<-hW3,<-hD];exact heap_alloc_new _ _
  . omega
  . intro e;have:D=w.heap.size:=e;omega
 have hh3:=(hb3.block w.heap.size hl2).trans hh2;have HD3:=zH hd3;have HH3:=zH hh3;have HB3:Hid (Below w.heap.size w W3):=zH (hb12.trans (hb3.mono hb12.size));have HDD:=zH hD;clear e0 hd3 hh3 hb3 hS hb2 hh2 hh1 hb1 hb12 CN hD hl1 hl2 hl3;go_wp2_with fail
 rw[HDD.out];go_loopw [8,31] (fun so si wr=>∃(j m:Nat) (Av:Nat->Prop),si=.int .i64 j/\j<=n/\m<=j/\Hid (m=(qQ (L.take j)).2.length)/\Hid (HasDsk wr w.heap.size Av D (qQ (L.take j)).1)/\Hid (wr.ownsRow (w.heap.size+1) 9 1 so m ((qQ (L.take j)).2.map Value.string))/\Hid (∀g,so.ownBlock=some g->Av g)/\Hid (Av w.heap.size)/\Hid (wr.heap[w.heap.size]?=some (.cells (L.map Value.string).toArray 9 (0,0)))/\Hid (Below w.heap.size w wr)) (fun _ si _=>n-(intOf si).toNat)
 case atStart=>exact⟨0,0,_,rfl,by omega,Nat.le_refl _,zH rfl,HD3,zH (World.ownsRow_nil _ _ _ _),zH (fun g hg=>by simp[Value.ownBlock]at hg),zH rfl,HH3,HB3⟩
 case round=>
  obtain⟨j,m,Av,rfl,hj,hm,HM,HDk,HO,HOA,HAL,HH,HB⟩:=hrel;obtain⟨wo,rfl⟩:∃wo,wo=wr:=⟨_,rfl⟩
  by_cases hjn:j<n
  . have hjL:j<L.length:=by rw[HLN.out];exact hjn
    have hstep:=Vo hjL;have c0:=Yv (w:=w) HH.out hjL;obtain⟨x,hx⟩:∃x,L[j]=x:=⟨_,rfl⟩
    have hxs:x.size<=4294967296:=HSZ.out x (by rw[<-hx];exact List.getElem_mem _);rw[hx]at c0 hstep;have k2:(j:Int)<(n:Int):=by omega
    cases hE:x.toList.isEmpty with
    |true=>
     have hE2:(x.toList==[])=true:=by rw[beq_iff_eq];exact List.isEmpty_iff.1 hE
     have hrun:qQ (L.take (j+1))=qQ (L.take j):=by rw[hstep];unfold zbQ;rw[hE];rfl
     have HRUN:=zH hrun;clear hstep hx hrun;go_wp2_with fail
     go_roundw
     case rel=>exact⟨j+1,m,Av,by go_num,by omega,by omega,zH (by rw[HRUN.out];exact HM.out),zH (by rw[HRUN.out];exact HDk.out),zH (by rw[HRUN.out];exact HO.out),HOA,HAL,HH,HB⟩
     case measure=>simp[intOf];omega
    |false=>
     have hE2:(x.toList==[])=false:=by rw[beq_eq_false_iff_ne];intro e;rw[e]at hE;simp at hE
     obtain⟨s0,hs0⟩:∃s0,qQ (L.take j)=s0:=⟨_,rfl⟩
     rw[hs0]at hstep HM HDk HO;have hrun:qQ (L.take (j+1))=((QS s0.1 (zL x)).1,s0.2++[(QS s0.1 (zL x)).2]):=by rw[hstep];unfold zbQ;rw[hE];rfl
     have CL:=zH (zb6 HDk.out (hW.later HB.out hw8) hw8 x hxs);unfold Zz at CL;obtain⟨R,hR⟩:∃R,QS s0.1 (zL x)=R:=⟨_,rfl⟩
     rw[hR]at CL hrun;have HRUN:=zH hrun;clear hstep hx hrun hR;have hbs:=HB.out.size;go_wp2_with fail
     (with_reducible refine CL.out.mono ?_);rintro e w5 ⟨rfl,hd5,hk5⟩
     have ho5:=zbR hk5 HO.out HOA.out;have hb5:Below w.heap.size w w5:=HB.out.trans hk5.bel;have hh5:w5.heap[w.heap.size]?=some (.cells (L.map Value.string).toArray 9 (0,0)):=(hk5.blk _ HAL.out).trans HH.out;have HO5:=zH ho5;have HB5:=zH hb5;have HH5:=zH hh5;have HD5:=zH hd5;have hs5:w.heap.size+1<=w5.heap.size:=(Array.getElem?_eq_some_iff.1 hh5).1;clear CL ho5 hb5 hh5 hd5 hk5 c0;go_wp2_with (at_builtin;go_must (refine qR rfl (.tmp 37) (.tmp 41) 22 rfl (w.heap.size+1) 9 _ 1 16 Tryz.underlying22 Yt _ m _ (by rfl) HO5.out [.string R.2] (by rfl) rfl (by intro u hu;simp at hu;subst hu;rfl) (by unfold maxLen;omega) (by omega) hs5 ?_);intro v7 w7 hown7 hgr7 hb7 hat7)
     have hal:Below w5.heap.size w5 (w5.alloc (.cells [Value.string R.2].toArray 9)):=zc _ _;have hd6:=(HD5.out.wide hal).grown hgr7 (fun g hg=>.inl (HOA.out g hg));have hh7:w7.heap[w.heap.size]?=some (.cells (L.map Value.string).toArray 9 (0,0)):=by
      refine zY hgr7 (za _ _ HH5.out) ?_;intro e;have:=(World.ownsRow.lt HO5.out _ e.symm).1;omega
     obtain⟨Av7,hAv7⟩:∃A,WideA (WideA Av w5.heap.size (w5.alloc (.cells [Value.string R.2].toArray 9)).heap.size) (w5.alloc (.cells [Value.string R.2].toArray 9)).heap.size w7.heap.size=A:=⟨_,rfl⟩
     rw[hAv7]at hd6
     go_roundw
     case rel=>
      refine⟨j+1,m+1,Av7,by go_num,by omega,by omega,zH (by rw[HRUN.out,List.length_append,HM.out];rfl),zH (by rw[HRUN.out];exact hd6),zH (by rw[HRUN.out,List.map_append];exact hown7),zH ?_,zH (by rw[<-hAv7];exact .inl (.inl HAL.out)),zH hh7,zH (HB5.out.trans (hb7.mono (by omega)))⟩;intro g hg;rw[<-hAv7];rcases hat7 with h7|h7
      . rw[h7]at hg;exact .inl (.inl (HOA.out g hg))
      . rw[h7]at hg;injection hg with hg
        have:=(World.ownsRow.lt hown7 g (by rw[h7,hg])).2;have h8:(w5.alloc (.cells [Value.string R.2].toArray 9)).heap.size=w5.heap.size+1:=World.size_alloc _ _;exact .inr ⟨by omega,this⟩
     case measure=>simp[intOf];omega
  . obtain rfl:j=n:=by omega
    have hall:L.take j=L:=List.take_of_length_le (by rw[HLN.out];exact Nat.le_refl _);rw[hall]at HO HM;go_wp2_with fail
    go_ret2
    rw[<-HM.out];exact⟨_,rfl,qm HO.out (by omega),HB.out⟩
abbrev shZ:Array Value:=#[.int .i64 0,.int .i64 0,.int .i64 0,.int .i64 0,.int .u16 0,.int .i64 0,.slice none 0 0]
structure Bx (w W:World) (sh rs:Array Value):Prop where
 s:W.heap[w.heap.size]?=some (.cells sh 41 (0,0))
 r:W.heap[w.heap.size+1]?=some (.cells rs 41 (0,0))
 b:Below w.heap.size w W
 n:w.heap.size+2<=W.heap.size
theorem Bx.first(w:World)(sh:Array Value):Bx w ((w.alloc (.cells sh 41)).alloc (.cells shZ 41)) sh shZ:=
 ⟨za _ _ (heap_alloc_new w _),zl _ _ _ (by simp),(zc w _).alloc (by simp) _,by simp⟩
theorem Bx.below{w W W':World}{sh rs:Array Value}(h:Bx w W sh rs)(hb:Below W.heap.size W W'):Bx w W' sh rs:=
 ⟨(hb.block _ (by have:=h.n;omega)).trans h.s,(hb.block _ (by have:=h.n;omega)).trans h.r,h.b.trans (hb.mono h.b.size),Nat.le_trans h.n hb.size⟩
theorem Bx.drew{w W:World}{sh rs:Array Value}(h:Bx w W sh rs):Bx w W.drew sh rs:=h.below (zb (Below.refl _ _))
abbrev put7(W:World)(A:Nat)(a0 a1 a2 a3 a4 a5 a6:Value):World:=
 ((((((W.setCell ⟨A,0,none⟩ a0).setCell ⟨A,1,none⟩ a1).setCell ⟨A,2,none⟩ a2).setCell ⟨A,3,none⟩ a3).setCell ⟨A,4,none⟩ a4).setCell ⟨A,5,none⟩ a5).setCell ⟨A,6,none⟩ a6
theorem Zd{W:World}{A:Nat}{x0 x1 x2 x3 x4 x5 x6:Value}{t:TypeId}(h:W.heap[A]?=some (.cells #[x0,x1,x2,x3,x4,x5,x6] t (0,0)))(a0 a1 a2 a3 a4 a5 a6:Value):
 (put7 W A a0 a1 a2 a3 a4 a5 a6).heap[A]?=some (.cells #[a0,a1,a2,a3,a4,a5,a6] t (0,0)):=by
 rw[heap_set a6 (j:=6) (heap_set a5 (j:=5) (heap_set a4 (j:=4) (heap_set a3 (j:=3) (heap_set a2 (j:=2) (heap_set a1 (j:=1) (heap_set a0 (j:=0) h))))))];rfl
theorem zv{W:World}{A:Nat}{a0 a1 a2 a3 a4 a5 a6:Value}{t:TypeId}(h:W.heap[A]?=some (.cells #[a0,a1,a2,a3,a4,a5,a6] t (0,0))):
 W.cell? ⟨A,0,none⟩=some a0/\W.cell? ⟨A,1,none⟩=some a1/\W.cell? ⟨A,2,none⟩=some a2/\W.cell? ⟨A,3,none⟩=some a3/\W.cell? ⟨A,4,none⟩=some a4/\W.cell? ⟨A,5,none⟩=some a5/\W.cell? ⟨A,6,none⟩=some a6:=
 ⟨zd h 0,zd h 1,zd h 2,zd h 3,zd h 4,zd h 5,zd h 6⟩
theorem Bx.old{w W:World}{n k wr r D m:Nat}{v:Value}{rs:Array Value}(h:Bx w W (shC n k wr r D m v) rs):
 W.cell? ⟨w.heap.size,0,none⟩=some (.int .i64 (n:Int))/\W.cell? ⟨w.heap.size,1,none⟩=some (.int .i64 (k:Int))/\W.cell? ⟨w.heap.size,2,none⟩=some (.int .i64 (wr:Int))/\W.cell? ⟨w.heap.size,3,none⟩=some (.int .i64 (r:Int))/\
 W.cell? ⟨w.heap.size,4,none⟩=some (.int .u16 (D:Int))/\W.cell? ⟨w.heap.size,5,none⟩=some (.int .i64 (m:Int))/\W.cell? ⟨w.heap.size,6,none⟩=some v:=zv h.s
theorem Bx.res{w W:World}{sh:Array Value}(h:Bx w W sh shZ):
 (W.cell? ⟨w.heap.size+1,0,none⟩=some (.int .i64 0)/\W.cell? ⟨w.heap.size+1,1,none⟩=some (.int .i64 0)/\W.cell? ⟨w.heap.size+1,2,none⟩=some (.int .i64 0)/\W.cell? ⟨w.heap.size+1,3,none⟩=some (.int .i64 0)/\
 W.cell? ⟨w.heap.size+1,4,none⟩=some (.int .u16 0)/\W.cell? ⟨w.heap.size+1,5,none⟩=some (.int .i64 0)/\W.cell? ⟨w.heap.size+1,6,none⟩=some (.slice none 0 0))/\
 W.frozen? ⟨w.heap.size+1,0,none⟩=false/\W.frozen? ⟨w.heap.size+1,1,none⟩=false/\W.frozen? ⟨w.heap.size+1,2,none⟩=false/\W.frozen? ⟨w.heap.size+1,3,none⟩=false/\
 W.frozen? ⟨w.heap.size+1,4,none⟩=false/\W.frozen? ⟨w.heap.size+1,5,none⟩=false/\W.frozen? ⟨w.heap.size+1,6,none⟩=false:=
 ⟨zv h.r,zm h.r 0,zm h.r 1,zm h.r 2,zm h.r 3,zm h.r 4,zm h.r 5,zm h.r 6⟩
theorem Bx.put7{w W:World}{sh:Array Value}(h:Bx w W sh shZ)(a0 a1 a2 a3 a4 a5 a6:Value):Bx w (put7 W (w.heap.size+1) a0 a1 a2 a3 a4 a5 a6) sh #[a0,a1,a2,a3,a4,a5,a6]:=by
 have hne:w.heap.size+1≠w.heap.size:=by omega
 refine⟨?_,Zd h.r _ _ _ _ _ _ _,zj h.b (Nat.le_succ _) _ _ _ _ _ _ _,by have:=h.n;simp[Go.Proofs.YtmgfbmkfomebcaaGreatDoor.put7];omega⟩;rw[zf _ hne,zf _ hne,zf _ hne,zf _ hne,zf _ hne,zf _ hne,zf _ hne];exact h.s
def pN(sh:Array Value)(T:ByteArray)(w:World)(e:Ending)(w':World):Prop:=e=.returned (.tuple #[.agg sh,.string T])/\Below w.heap.size w w'
theorem zce(n k wr0 r D mw la ca:Nat)(ao:Option Addr)(w:World)(hW:DkW w)(x:ByteArray)(hx:x.size<=4294967296)(hws:zL x=[]):
 Calls Tryz.prog 11 #[.agg (shC n k wr0 r D mw (.slice ao la ca)),.string x] w (pN (shC n k wr0 r D mw (.slice ao la ca)) (zt 12) w):=by
 have hmf:∀(fn:Fn) (first cap:Array Value) (w:World),(Instr.makeFunc fn first cap).run Tryz.prog w=.ok (.func fn first cap) w:=fun _ _ _ _=>rfl
 have bx0:=Bx.first w (shC n k wr0 r D mw (.slice ao la ca));obtain⟨W1,hW1⟩:∃W1,(w.alloc (.cells (shC n k wr0 r D mw (.slice ao la ca)) 41)).alloc (.cells shZ 41)=W1:=⟨_,rfl⟩
 rw[hW1]at bx0;have CF:=zH (yp x W1 hx);unfold zM at CF;rw[hws]at CF;have CR:=zH fun X (hX:Below w.heap.size w X)=>zx 12 (by omega) (by omega) X (hW.below hX)
 unfold zq at CR;have BX0:=zH bx0;clear bx0;go_enter Tryz.func11,Tryz.ntmps11
 go_wp2_with fail
 (with_reducible refine CF.out.mono ?_);rintro e w2 ⟨A,rfl,hA, -,hb2⟩
 have bx:=BX0.out.below hb2;obtain⟨x0,x1,x2,x3,x4,x5,x6⟩:=bx.old;obtain⟨⟨z0,z1,z2,z3,z4,z5,z6⟩,f0,f1,f2,f3,f4,f5,f6⟩:=bx.res;have BX:=zH bx;have hne:w.heap.size≠w.heap.size+1:=by omega
 clear bx hb2 hA CF hW1;go_wp2_with fail
 go_region_held3 (fun w'=>w'.cell? ⟨w.heap.size,0,none⟩=some (.int .i64 (n:Int))/\w'.cell? ⟨w.heap.size,1,none⟩=some (.int .i64 (k:Int))/\w'.cell? ⟨w.heap.size,2,none⟩=some (.int .i64 (wr0:Int))/\w'.cell? ⟨w.heap.size,3,none⟩=some (.int .i64 (r:Int))/\w'.cell? ⟨w.heap.size,4,none⟩=some (.int .u16 (D:Int))/\w'.cell? ⟨w.heap.size,5,none⟩=some (.int .i64 (mw:Int))/\w'.cell? ⟨w.heap.size,6,none⟩=some (.slice ao la ca)) (first|(with_reducible exact HKK.out)|(with_reducible exact(BX.out.put7 _ _ _ _ _ _ _).old)|(with_reducible exact(BZ.out.put7 _ _ _ _ _ _ _).old)|go_keep)
  (first|(go_at_call 22;(with_reducible refine(CR.out _ (by first|exact BX.out.b|exact BX.out.drew.b|exact(BX.out.put7 _ _ _ _ _ _ _).b|exact(BX.out.put7 _ _ _ _ _ _ _).drew.b)).mono ?_);rintro e w3 ⟨rfl,hb3⟩;(first|(have BZ:=zH (BX.out.below hb3))|(have BZ:=zH (BX.out.drew.below hb3))|(have BZ:=zH ((BX.out.put7 _ _ _ _ _ _ _).below hb3))|(have BZ:=zH ((BX.out.put7 _ _ _ _ _ _ _).drew.below hb3)));have HKK:=zH BZ.out.old;(first|(obtain⟨⟨zz0,zz1,zz2,zz3,zz4,zz5,zz6⟩,ff0,ff1,ff2,ff3,ff4,ff5,ff6⟩:=BZ.out.res)|skip)))
 obtain⟨q0,q1,q2,q3,q4,q5,q6⟩:=zv (BZ.out.put7 (.int .i64 (n:Int)) (.int .i64 (k:Int)) (.int .i64 (wr0:Int)) (.int .i64 (r:Int)) (.int .u16 (D:Int)) (.int .i64 (mw:Int)) (.slice ao la ca)).r;have hbz:=(BZ.out.put7 (.int .i64 (n:Int)) (.int .i64 (k:Int)) (.int .i64 (wr0:Int)) (.int .i64 (r:Int)) (.int .u16 (D:Int)) (.int .i64 (mw:Int)) (.slice ao la ca)).b;unfold put7 at q0 q1 q2 q3 q4 q5 q6 hbz;have HBZ:=zH hbz;clear hbz;go_wp2_with fail
 refine bodyPost_ret (v:=.tuple #[.agg (shC n k wr0 r D mw (.slice ao la ca)),.string (zt 12)]) (by simp[results,Tryz.results11,go_sem,q0,q1,q2,q3,q4,q5,q6];try rfl) rfl ?_;exact⟨rfl,HBZ.out⟩
end Go.Proofs.YtmgfbmkfomebcaaGreatDoor
