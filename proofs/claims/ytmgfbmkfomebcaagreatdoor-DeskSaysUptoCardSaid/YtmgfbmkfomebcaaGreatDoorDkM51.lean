/- wholeref.AnswerOf, whatever the line. -/
import Derived.Test.YtmgfbmkfomebcaaGreatDoorDkM44
import Derived.Test.YtmgfbmkfomebcaaGreatDoorDkM45xDeskXPut
import Derived.Test.YtmgfbmkfomebcaaGreatDoorDkM46xDeskXTorn
import Derived.Test.YtmgfbmkfomebcaaGreatDoorDkM47xDeskXGet
import Derived.Test.YtmgfbmkfomebcaaGreatDoorDkM48xDeskXScrub
import Derived.Test.YtmgfbmkfomebcaaGreatDoorDkM49
import Derived.Test.YtmgfbmkfomebcaaGreatDoorDkM50
import Derived.Test.YtmgfbmkfomebcaaGreatDoorDkM42
import Derived.Test.YtmgfbmkfomebcaaGreatDoorDkM7
import Derived.Deep.RegionHeld3
import Derived.Deep.QuietTactic
set_option linter.unusedVariables false
set_option linter.unusedSimpArgs false
set_option maxRecDepth 100000
set_option maxHeartbeats 8000000
namespace Go.Proofs.YtmgfbmkfomebcaaGreatDoor
open Go.RowKit
theorem VN(n:Nat):Shl n 0 [] ⟨0,fun _=>false,fun _ _=>[]⟩:=
 ⟨fun _ _ _ _=>rfl,fun _ _=>by simp,by omega,by simp,Okst.init⟩
theorem zdQ{s:DS}{D ca:Nat}{All:List It}{ao:Option Addr}{w w':World}{e:Ending}{T:ByteArray}(hSh:Shl s.n D All s.st)(hRd:Reads w ao (ze All))(hnone:ao=none->All.length=0/\ca=0)
 (h:pN (shC s.n s.k s.wr s.r D s.st.wr (.slice ao All.length ca)) T w e w'):Zq (s,T) ao w e w':=
 ⟨D,All,ao,ca,h.1,hSh,hRd.below h.2,hnone,.inl rfl,h.2⟩
theorem KH{s:DS}(hok:s.ok){D ca:Nat}{All:List It}{ao:Option Addr}(hSh:Shl s.n D All s.st){w:World}(hRd:Reads w ao (ze All))(hnone:ao=none->All.length=0/\ca=0)(hao:∀a,ao=some a->a.block<w.heap.size)(hW:DkW w)(x:ByteArray)(hx:x.size<=4294967296):
 Calls Tryz.prog 11 #[.agg (shC s.n s.k s.wr s.r D s.st.wr (.slice ao All.length ca)),.string x] w (Zq (QS s (zL x)) ao w):=by
 have same:∀{T:ByteArray} {e:Ending} {w':World},pN (shC s.n s.k s.wr s.r D s.st.wr (.slice ao All.length ca)) T w e w'->Zq (s,T) ao w e w':=fun h=>zdQ hSh hRd hnone h
 cases hws:zL x with
 |nil=>exact(zce s.n s.k s.wr s.r D s.st.wr All.length ca ao w hW x hx hws).mono fun e w' h=>same h
 |cons c ws=>
  have e:QS s (c::ws)=(match pm c with|none=>(s,zt 12)|some m=>zK s ws m):=rfl;rw[e];cases hc:pm c with
  |none=>exact(JB s.n s.k s.wr s.r D s.st.wr All.length ca ao w hW x hx c ws hws hc).mono fun e w' h=>same h
  |some m=>
   have hcm:=VP hc;subst hcm;simp only;by_cases hlen:ws.length=m.form.length
   . have comp:∀(f:Nat->Nat->ByteArray) (R:Option (List Nat×ByteArray)),zB m.form ws=R->(∀x t,R=some (x,t)->zed s x t m=(s,f (x.getD 0 0) (x.getD 1 0)))->
         zK s ws m=(s,zdy f R):=by
      intro f R hF hR;unfold zK;rw[hF];cases R with
      |none=>rfl
      |some y=>obtain⟨y,t⟩:=y;exact hR y t rfl
     cases m with
     |gcd=>
      rw[comp jU _ rfl (fun _ _ _=>rfl)];exact(zeM s.n s.k s.wr s.r D s.st.wr All.length ca ao w hW x hx ws hws hlen _ rfl _ (zH rfl)).mono fun e w' h=>same h
     |factor=>
      rw[comp (fun a _=>ki a) _ rfl (fun _ _ _=>rfl)];exact(zaO s.n s.k s.wr s.r D s.st.wr All.length ca ao w hW x hx ws hws hlen _ rfl _ (zH rfl)).mono fun e w' h=>same h
     |root=>
      rw[comp kj _ rfl (fun _ _ _=>rfl)];exact(zdz s.n s.k s.wr s.r D s.st.wr All.length ca ao w hW x hx ws hws hlen _ rfl _ (zH rfl)).mono fun e w' h=>same h
     |code=>
      rw[comp (fun a _=>po a) _ rfl (fun _ _ _=>rfl)];exact(zdA s.n s.k s.wr s.r D s.st.wr All.length ca ao w hW x hx ws hws hlen _ rfl _ (zH rfl)).mono fun e w' h=>same h
     |new=>
      refine(zev s.n s.k s.wr s.r D s.st.wr All.length ca ao w hW x hx ws hws hlen _ rfl _ (zH rfl)).mono fun e w' h=>?_
      revert h;unfold zK;cases zB Cm.new.form ws with
      |none=>exact fun h=>same h
      |some y=>
       obtain⟨y,t⟩:=y;unfold zeu zed zao;simp only;by_cases hq:qp (y.getD 0 0:Nat) (y.getD 1 0:Nat) (y.getD 2 0:Nat) (y.getD 3 0:Nat)≠0
       . rw[if_pos hq,if_pos hq];exact fun h=>same h
       . rw[if_neg hq,if_neg hq];exact fun h=>⟨0,[],none,0,h.1,VN _,fun j u hu=>by simp[ze]at hu,fun _=>⟨rfl,rfl⟩,.inr (fun a ha=>nomatch ha),h.2⟩
     |put=>exact zeR rfl rfl hok.1 hok.2.1 hok.2.2 hSh hRd hnone hao hW x hx ws hws hlen _ rfl _ (zH rfl)
     |torn=>exact zdl rfl rfl hok.1 hok.2.1 hok.2.2 hSh hRd hnone hao hW x hx ws hws hlen _ rfl _ (zH rfl)
     |get=>exact zeT rfl rfl hok.1 hok.2.1 hok.2.2 hSh hRd hnone hao hW x hx ws hws hlen _ rfl _ (zH rfl)
     |scrub=>exact zci rfl rfl hok.1 hok.2.1 hok.2.2 hSh hRd hnone hao hW x hx ws hws hlen _ rfl _ (zH rfl)
     |down=>exact zdx rfl rfl hok.1 hok.2.1 hok.2.2 hSh hRd hnone hao hW x hx ws hws hlen _ rfl _ (zH rfl)
     |up=>exact zfG rfl rfl hok.1 hok.2.1 hok.2.2 hSh hRd hnone hao hW x hx ws hws hlen _ rfl _ (zH rfl)
     |lose=>exact zdr rfl rfl hok.1 hok.2.1 hok.2.2 hSh hRd hnone hao hW x hx ws hws hlen _ rfl _ (zH rfl)
     |rot=>exact zeJ rfl rfl hok.1 hok.2.1 hok.2.2 hSh hRd hnone hao hW x hx ws hws hlen _ rfl _ (zH rfl)
   . have hF:zB m.form ws=none:=by unfold zB;rw[if_pos hlen]
     have e2:zK s ws m=(s,zt 12):=by unfold zK;rw[hF]
     rw[e2];exact(zeK s.n s.k s.wr s.r D s.st.wr All.length ca ao w hW x hx m ws hws hlen).mono fun e w' h=>same h
theorem zdT{w w':World}{bs e size:Nat}{v:Value}{n:Nat}{xs:List Value}(h:w.ownsRow bs e size v n xs)(hs:∀g,bs<=g->w'.heap[g]?=w.heap[g]?):w'.ownsRow bs e size v n xs:=by
 refine⟨h.1,?_⟩;rcases h.2 with hn|⟨g,cap,cur,rfl,hb,hg,rest⟩
 . exact .inl hn
 . exact .inr ⟨g,cap,cur,rfl,hb,by rw[hs g hb];exact hg,rest⟩
structure RunX (w:World) (S:Nat) (L:List ByteArray) (sh:Array Value) (s:DS) (D:Nat) (All:List It) (ao:Option Addr) (ca:Nat) (out:List ByteArray) (so:Value) (X:World):Prop where
 hs:X.heap[S]?=some (.cells sh 41 (0,0))
 shl:Shl s.n D All s.st
 rd:Reads X ao (ze All)
 no:ao=none->All.length=0/\ca=0
 ao:∀a,ao=some a->S<a.block/\a.block<X.heap.size/\so.ownBlock≠some a.block
 row:X.ownsRow (S+1) 9 1 so out.length (out.map Value.string)
 ln:X.heap[w.heap.size]?=some (.cells (L.map Value.string).toArray 9 (0,0))
 b:Below w.heap.size w X
 lt:w.heap.size<S/\S<X.heap.size
theorem RunX.below{w:World}{S:Nat}{L:List ByteArray}{sh:Array Value}{s:DS}{D:Nat}{All:List It}{ao:Option Addr}{ca:Nat}{out:List ByteArray}{so:Value}{X X':World}(h:RunX w S L sh s D All ao ca out so X)(hb:Below X.heap.size X X'):RunX w S L sh s D All ao ca out so X':=
 ⟨(hb.block _ h.lt.2).trans h.hs,h.shl,h.rd.below hb,h.no,fun a ha=>⟨(h.ao a ha).1,Nat.lt_of_lt_of_le (h.ao a ha).2.1 hb.size,(h.ao a ha).2.2⟩,zi h.row hb,(hb.block _ (by have:=h.lt;omega)).trans h.ln,h.b.trans (hb.mono h.b.size),h.lt.1,Nat.lt_of_lt_of_le h.lt.2 hb.size⟩
theorem RunX.put{w:World}{S:Nat}{L:List ByteArray}{x0 x1 x2 x3 x4 x5 x6:Value}{s:DS}{D:Nat}{All:List It}{ao:Option Addr}{ca:Nat}{out:List ByteArray}{so:Value}{X:World}(h:RunX w S L #[x0,x1,x2,x3,x4,x5,x6] s D All ao ca out so X)(a0 a1 a2 a3 a4 a5 a6:Value):
 RunX w S L #[a0,a1,a2,a3,a4,a5,a6] s D All ao ca out so (put7 X S a0 a1 a2 a3 a4 a5 a6):=by
 refine⟨Zd h.hs _ _ _ _ _ _ _,h.shl,Qf h.rd ?_ _ _ _ _ _ _ _,h.no,fun a ha=>?_,zdT h.row ?_,?_,zj h.b (by have:=h.lt;omega) _ _ _ _ _ _ _,h.lt.1,by rw[yj];exact h.lt.2⟩
 . intro a ha e;have:=(h.ao a ha).1;omega
 . rw[yj];exact h.ao a ha
 . intro g hg;exact qt (by omega) _ _ _ _ _ _ _
 . rw[qt (by have:=h.lt;omega)];exact h.ln
theorem RunX.app{w:World}{S:Nat}{L:List ByteArray}{sh:Array Value}{s:DS}{D:Nat}{All:List It}{ao:Option Addr}{ca:Nat}{out:List ByteArray}{so v7:Value}{X w7:World}(h:RunX w S L sh s D All ao ca out so X){u:ByteArray}{o:Obj}(hgr:(X.alloc o).grownBy w7 so.ownBlock)
 (hown:w7.ownsRow (S+1) 9 1 v7 (out.length+1) (out.map Value.string++[.string u]))(hat:so.ownBlock=v7.ownBlock\/v7.ownBlock=some (X.heap.size+1)):
 RunX w S L sh s D All ao ca (out++[u]) v7 w7:=by
 have hsz:X.heap.size+1<=w7.heap.size:=by have:=hgr.size;rw[World.size_alloc]at this;exact this
 have hneB:∀g,g<=S->some g≠so.ownBlock:=by
  intro g hg e;have:=(h.row.lt g e.symm).1;omega
 refine⟨zY hgr (za _ _ h.hs) (hneB S (Nat.le_refl _)),h.shl,(h.rd.below (zc X o)).grown hgr (fun a ha e=>(h.ao a ha).2.2 e.symm),h.no,?_,by rw[List.length_append,List.map_append];exact hown,zY hgr (za _ _ h.ln) (hneB _ (by have:=h.lt;omega)),?_,h.lt.1,by have:=h.lt;omega⟩
 . intro a ha;have h1:=h.ao a ha;refine⟨h1.1,by omega,?_⟩;rcases hat with h2|h2
   . rw[<-h2];exact h1.2.2
   . rw[h2];intro e;injection e with e
     omega
 . have hb1:=h.b.alloc h.b.size o;refine hb1.trans (zQ hgr (by have:=hb1.size;omega) ?_);intro g hg;have h1:=(h.row.lt g hg).1;have:=h.lt;omega
theorem pH{W:World}{A:Nat}{n k wr r D m:Nat}{v:Value}(h:W.heap[A]?=some (.cells (shC n k wr r D m v) 41 (0,0))):
 (W.cell? ⟨A,0,none⟩=some (.int .i64 (n:Int))/\W.cell? ⟨A,1,none⟩=some (.int .i64 (k:Int))/\W.cell? ⟨A,2,none⟩=some (.int .i64 (wr:Int))/\W.cell? ⟨A,3,none⟩=some (.int .i64 (r:Int))/\
 W.cell? ⟨A,4,none⟩=some (.int .u16 (D:Int))/\W.cell? ⟨A,5,none⟩=some (.int .i64 (m:Int))/\W.cell? ⟨A,6,none⟩=some v)/\
 W.frozen? ⟨A,0,none⟩=false/\W.frozen? ⟨A,1,none⟩=false/\W.frozen? ⟨A,2,none⟩=false/\W.frozen? ⟨A,3,none⟩=false/\W.frozen? ⟨A,4,none⟩=false/\W.frozen? ⟨A,5,none⟩=false/\W.frozen? ⟨A,6,none⟩=false:=
 ⟨zv h,zm h 0,zm h 1,zm h 2,zm h 3,zm h 4,zm h 5,zm h 6⟩
theorem Yf(s:ByteArray)(w:World)(hW:DkW w)(hs:s.size<=1048576)(hl:4096<s.size\/60<(yD s).length):
 Calls Tryz.prog 5 #[.string s] w fun e w'=>e=.returned (.tuple #[.slice none 0 0,.int .i64 2])/\Below w.heap.size w w':=by
 obtain⟨mx,hmx⟩:=hW.max;have CS:=zH (QL s mx w (by omega) hmx);rw[kZ]at hl;obtain⟨n,hn⟩:∃n,Lib.countB s dkNl+1=n:=⟨_,rfl⟩
 rw[hn]at CS hl;obtain⟨L,hL⟩:∃L,Lib.splitB dkNl 0 (Lib.countB s dkNl) s=L:=⟨_,rfl⟩
 rw[hL]at CS;clear hL hn;by_cases h1:4096<s.size
 . have d1:(4096:Int)<(s.size:Int):=by omega
   go_enter Tryz.func5,Tryz.ntmps5
   go_wp2_with fail
   (with_reducible refine CS.out.mono ?_);rintro e w1 ⟨rfl,rfl⟩
   go_wp2_with fail
   go_ret2
   exact⟨rfl,zc _ _⟩
 . have d1:¬(4096:Int)<(s.size:Int):=by omega
   have d2:(60:Int)<(n:Int):=by omega
   go_enter Tryz.func5,Tryz.ntmps5
   go_wp2_with fail
   (with_reducible refine CS.out.mono ?_);rintro e w1 ⟨rfl,rfl⟩
   go_wp2_with fail
   go_ret2
   exact⟨rfl,zc _ _⟩
theorem XN(s:ByteArray)(w:World)(hW:DkW w)(hs:s.size<=4096)(hl:(yD s).length<=60):
 Calls Tryz.prog 5 #[.string s] w fun e w'=>∃v,e=.returned (.tuple #[v,.int .i64 0])/\w'.ownsRow w.heap.size 9 1 v (qQ (yD s)).2.length ((qQ (yD s)).2.map Value.string)/\Below w.heap.size w w':=by
 obtain⟨mx,hmx⟩:=hW.max;have CS:=zH (QL s mx w (by omega) hmx);have hsz:∀x∈yD s,x.size<=4294967296:=fun x hx=>by have:=jO _ _ _ hx;omega
 have hln:=kZ s;obtain⟨nl,hn⟩:∃n,Lib.countB s dkNl+1=n:=⟨_,rfl⟩
 rw[hn]at CS hln;rw[hln]at hl;have eL:Lib.splitB dkNl 0 (Lib.countB s dkNl) s=yD s:=rfl;rw[eL]at CS;obtain⟨L,hL⟩:∃L,yD s=L:=⟨_,rfl⟩
 rw[hL]at CS hsz hln ⊢;have d1:¬(4096:Int)<(s.size:Int):=by omega
 have d2:¬(60:Int)<(nl:Int):=by omega
 have HSZ:=zH hsz;have HLN:=zH hln;have CSh:Hid (∀W,Calls Tryz.prog 10 #[.agg #[.int .i64 4,.int .i64 2,.int .i64 3,.int .i64 3]] W fun e w'=>e=.returned (.agg #[.int .i64 4,.int .i64 2,.int .i64 3,.int .i64 3,.int .u16 0,.int .i64 0,.slice none 0 0])/\Below W.heap.size W w'):=zH fun W=>YD 4 2 3 3 W
 have hw8:=hW.low;clear hL hn hmx hsz hln;go_enter Tryz.func5,Tryz.ntmps5
 go_wp2_with fail
 (with_reducible refine CS.out.mono ?_);rintro e w1 ⟨rfl,hw1⟩
 have hh1:w1.heap[w.heap.size]?=some (.cells (L.map Value.string).toArray 9 (0,0)):=by rw[hw1];exact heap_alloc_new _ _
 have hb1:Below w.heap.size w w1:=by rw[hw1];exact zc _ _
 have hl1:w.heap.size<w1.heap.size:=by rw[hw1];simp
 clear hw1 CS;go_wp2_with fail
 (with_reducible refine(CSh.out _).mono ?_);rintro e w2 ⟨rfl,hb2⟩
 have hh2:=(hb2.block w.heap.size hl1).trans hh1;have hl2:w.heap.size<w2.heap.size:=Nat.lt_of_lt_of_le hl1 hb2.size;have hb12:Below w.heap.size w w2:=hb1.trans (hb2.mono hb1.size);obtain⟨S,hS⟩:∃S,w2.heap.size=S:=⟨_,rfl⟩
 have hx3:RunX w S L #[.int .i64 4,.int .i64 2,.int .i64 3,.int .i64 3,.int .u16 0,.int .i64 0,.slice none 0 0] DS0 0 [] none 0 [] (.slice none 0 0) (w2.alloc (.cells #[.int .i64 4,.int .i64 2,.int .i64 3,.int .i64 3,.int .u16 0,.int .i64 0,.slice none 0 0] 41)):=by
  subst hS;exact⟨heap_alloc_new w2 _,VN _,fun j u hu=>by simp[ze]at hu,fun _=>⟨rfl,rfl⟩,fun a ha=>(nomatch ha),World.ownsRow_nil _ _ _ _,za _ _ hh2,hb12.alloc hb12.size _,hl2,by simp⟩
 have HX3:=zH hx3;have HSS:=zH hS;clear hx3 hb2 hh2 hh1 hb1 hb12 CSh hS hl1 hl2;go_wp2_with fail
 rw[HSS.out];go_loopw [6,25] (fun so si wr=>∃(j m D:Nat) (All:List It) (ao:Option Addr) (ca:Nat) (sq:Value),sq=so/\si=.int .i64 j/\j<=nl/\m<=j/\Hid (m=(qQ (L.take j)).2.length)/\Hid ((qQ (L.take j)).1.ok)/\
  Hid (RunX w S L (shC (qQ (L.take j)).1.n (qQ (L.take j)).1.k (qQ (L.take j)).1.wr (qQ (L.take j)).1.r D (qQ (L.take j)).1.st.wr (.slice ao All.length ca)) (qQ (L.take j)).1 D All ao ca (qQ (L.take j)).2 sq wr)) (fun _ si _=>nl-(intOf si).toNat)
 case atStart=>exact⟨0,0,0,[],none,0,_,rfl,rfl,by omega,Nat.le_refl _,zH rfl,zH (show DS0.ok from⟨by decide,by decide,by decide⟩),HX3⟩
 case round=>
  obtain⟨j,m,D,All,ao,ca,so,rfl,rfl,hj,hm,HM,HOK,HX⟩:=hrel;obtain⟨wo,rfl⟩:∃wo,wo=wr:=⟨_,rfl⟩
  by_cases hjn:j<nl
  . have hjL:j<L.length:=by rw[HLN.out];exact hjn
    have hstep:=Vo hjL;have c0:=Yv (w:=w) HX.out.ln hjL;obtain⟨x,hx⟩:∃x,L[j]=x:=⟨_,rfl⟩
    have hxs:x.size<=4294967296:=HSZ.out x (by rw[<-hx];exact List.getElem_mem _);rw[hx]at c0 hstep;have k2:(j:Int)<(nl:Int):=by omega
    cases hE:x.toList.isEmpty with
    |true=>
     have hE2:(x.toList==[])=true:=by rw[beq_iff_eq];exact List.isEmpty_iff.1 hE
     have hrun:qQ (L.take (j+1))=qQ (L.take j):=by rw[hstep];unfold zbQ;rw[hE];rfl
     have HRUN:=zH hrun;clear hstep hx hrun;go_wp2_with fail
     go_roundw
     case rel=>exact⟨j+1,m,D,All,ao,ca,_,rfl,by go_num,by omega,by omega,zH (by rw[HRUN.out];exact HM.out),zH (by rw[HRUN.out];exact HOK.out),zH (by rw[HRUN.out];exact HX.out)⟩
     case measure=>simp[intOf];omega
    |false=>
     have hE2:(x.toList==[])=false:=by rw[beq_eq_false_iff_ne];intro e;rw[e]at hE;simp at hE
     obtain⟨s0,hs0⟩:∃s0,qQ (L.take j)=s0:=⟨_,rfl⟩
     rw[hs0]at hstep HM HOK HX;have hrun:qQ (L.take (j+1))=((QS s0.1 (zL x)).1,s0.2++[(QS s0.1 (zL x)).2]):=by rw[hstep];unfold zbQ;rw[hE];rfl
     have hok2:=zfn HOK.out (zL x);obtain⟨⟨n,k,wr0,r,st⟩,out⟩:=s0;dsimp only at HM HOK HX hrun hok2;have CL0:=KH HOK.out HX.out.shl HX.out.rd HX.out.no (fun a ha=>(HX.out.ao a ha).2.1) (hW.later HX.out.b hw8) x hxs;dsimp only at CL0;obtain⟨R,hR⟩:∃R,QS ⟨n,k,wr0,r,st⟩ (zL x)=R:=⟨_,rfl⟩
     rw[hR]at CL0 hrun hok2;obtain⟨⟨n',k',wr',r',st'⟩,u⟩:=R;unfold Zq at CL0;dsimp only at CL0 hrun hok2;obtain⟨mw,hmw⟩:∃mw,st.wr=mw:=⟨_,rfl⟩
     obtain⟨la,hla⟩:∃la,All.length=la:=⟨_,rfl⟩
     rw[hmw,hla]at CL0 HX;have CL:=zH CL0;have HRUN:=zH hrun;have HOK2:=zH hok2;obtain⟨⟨x0,x1,x2,x3,x4,x5,x6⟩, -⟩:=pH HX.out.hs;clear hstep hx hrun hR CL0 hok2 hs0 HOK;go_wp2_with fail
     (with_reducible refine CL.out.mono ?_);rintro e w5 ⟨D',All',ao',ca',rfl,hsh',hrd',hno',hcl',hb5⟩
     obtain⟨mw',hmw'⟩:∃mw',st'.wr=mw':=⟨_,rfl⟩
     obtain⟨la',hla'⟩:∃la',All'.length=la':=⟨_,rfl⟩
     rw[hmw',hla'];have hx5:=HX.out.below hb5;have hao5:∀a,ao'=some a->S<a.block/\a.block<w5.heap.size/\so.ownBlock≠some a.block:=by
      intro a ha;rcases hcl' with h1|h1
      . have h2:=HX.out.ao a (h1 ▸ ha);exact⟨h2.1,Nat.lt_of_lt_of_le h2.2.1 hb5.size,h2.2.2⟩
      . have h2:=h1 a ha;have h3:=HX.out.lt.2;refine⟨by omega,h2.2,fun e=>?_⟩;have:=(HX.out.row.lt _ e).2;omega
     have hx6:RunX w S L (shC n k wr0 r D mw (.slice ao la ca)) ⟨n',k',wr',r',st'⟩ D' All' ao' ca' out so w5:=⟨hx5.hs,hsh',hrd',hno',hao5,hx5.row,hx5.ln,hx5.b,hx5.lt⟩
     obtain⟨T,hT⟩:∃T,w5.heap.size=T:=⟨_,rfl⟩
     obtain⟨W6,hW6⟩:∃W6,w5.alloc (.cells (shC n' k' wr' r' D' mw' (.slice ao' la' ca')) 41)=W6:=⟨_,rfl⟩
     have hb6:Below w5.heap.size w5 W6:=by rw[<-hW6];exact zc _ _
     have HX6:=zH (hx6.below hb6);have hT6:W6.heap[T]?=some (.cells (shC n' k' wr' r' D' mw' (.slice ao' la' ca')) 41 (0,0)):=by rw[<-hW6,<-hT];exact heap_alloc_new _ _
     have hl6:T<W6.heap.size:=by rw[<-hW6,<-hT];simp
     have hTS:S≠T:=by have:=hx5.lt.2;omega
     have hTso:so.ownBlock≠some T:=fun e=>by have:=(hx5.row.lt _ e).2;omega
     have hSso:so.ownBlock≠some S:=fun e=>by have:=(hx5.row.lt _ e).1;omega
     have hS6:S+1<=W6.heap.size:=(HX6.out.lt).2;have hm60:m<=60:=by omega
     have HT6:=zH hT6;have HMW:=zH hmw';have HLA:=zH hla';obtain⟨y0,y1,y2,y3,y4,y5,y6⟩:=zv hT6;obtain⟨⟨x0,x1,x2,x3,x4,x5,x6⟩,f0,f1,f2,f3,f4,f5,f6⟩:=pH HX6.out.hs;have hne6:S≠W6.heap.size:=by omega
     have HXP:=zH (HX6.out.put (.int .i64 (n':Int)) (.int .i64 (k':Int)) (.int .i64 (wr':Int)) (.int .i64 (r':Int)) (.int .u16 (D':Int)) (.int .i64 (mw':Int)) (.slice ao' la' ca'));unfold put7 at HXP;have hM:=HM.out;subst hM;clear hT6 hx6 hx5 hb6 hao5 hcl' hno' hrd' hsh' hb5 CL HX hmw' hla';go_wp2_with fail
     go_region_held3 (fun w'=>w'.cell? ⟨T,0,none⟩=some (.int .i64 (n':Int))/\w'.cell? ⟨T,1,none⟩=some (.int .i64 (k':Int))/\w'.cell? ⟨T,2,none⟩=some (.int .i64 (wr':Int))/\w'.cell? ⟨T,3,none⟩=some (.int .i64 (r':Int))/\w'.cell? ⟨T,4,none⟩=some (.int .u16 (D':Int))/\w'.cell? ⟨T,5,none⟩=some (.int .i64 (mw':Int))/\w'.cell? ⟨T,6,none⟩=some (.slice ao' la' ca')) (first|(with_reducible exact HKK.out)|go_keep)
      (first|(go_must (refine VZ (by rfl) (.tmp 38) (.tmp 40) 22 (by rfl) (S+1) 9 _ 16 Tryz.underlying22 Yt so out.length _ (by rfl) W6 (HX6.out.row) (.string u) (by rfl) rfl (by first|exact yc _ _ 1|exact Below.refl _ _) (by simp) (by unfold maxLen;omega) (by omega) (by first|exact hS6|(simp;omega)) ?_);intro g7 c7 w7 hown7 hgr7 hb7 hat7 hlt7;have HT7:Hid (w7.heap[T]?=some (.cells (shC n' k' wr' r' D' mw' (.slice ao' la' ca')) 41 (0,0))):=zH (zY hgr7 (za _ _ (by first|exact HT6.out|(rw[qt hTS];exact HT6.out))) (fun e=>hTso e.symm));have HKK:=zH (zv HT7.out);have hS7:=zY hgr7 (za _ _ (HX6.out.hs)) (fun e=>hSso e.symm);obtain⟨⟨s0,s1,s2,s3,s4,s5,s6⟩,t0,t1,t2,t3,t4,t5,t6⟩:=pH hS7;clear hS7)|(go_must (refine VZ (by rfl) (.tmp 38) (.tmp 40) 22 (by rfl) (S+1) 9 _ 16 Tryz.underlying22 Yt so out.length _ (by rfl) _ (HXP.out.row) (.string u) (by rfl) rfl (by first|exact yc _ _ 1|exact Below.refl _ _) (by simp) (by unfold maxLen;omega) (by omega) (by first|exact hS6|(simp;omega)) ?_);intro g7 c7 w7 hown7 hgr7 hb7 hat7 hlt7;have HT7:Hid (w7.heap[T]?=some (.cells (shC n' k' wr' r' D' mw' (.slice ao' la' ca')) 41 (0,0))):=zH (zY hgr7 (za _ _ (by first|exact HT6.out|(rw[qt hTS];exact HT6.out))) (fun e=>hTso e.symm));have HKK:=zH (zv HT7.out);have hS7:=zY hgr7 (za _ _ (HXP.out.hs)) (fun e=>hSso e.symm);obtain⟨⟨s0,s1,s2,s3,s4,s5,s6⟩,t0,t1,t2,t3,t4,t5,t6⟩:=pH hS7;clear hS7))
     have hx9:=(HX6.out.app hgr7 hown7 (by
      rcases hat7 with h|h;· exact .inl h
      . exact .inr (by rw[<-h];rfl))).put (.int .i64 (n':Int)) (.int .i64 (k':Int)) (.int .i64 (wr':Int)) (.int .i64 (r':Int)) (.int .u16 (D':Int)) (.int .i64 (mw':Int)) (.slice ao' la' ca')
     unfold put7 at hx9;have HX9:=zH hx9;clear hx9 HKK;go_wp2_with fail
     go_roundw
     case rel=>
      refine⟨j+1,out.length+1,D',All',ao',ca',_,rfl,by go_num,by omega,by omega,zH (by rw[HRUN.out,List.length_append];rfl),zH (by rw[HRUN.out];exact HOK2.out),zH ?_⟩;rw[HRUN.out];dsimp only;rw[HMW.out,HLA.out];exact HX9.out
     case measure=>simp[intOf];omega
  . obtain rfl:j=nl:=by omega
    have hall:L.take j=L:=List.take_of_length_le (by rw[HLN.out];exact Nat.le_refl _);rw[hall]at HX HM;go_wp2_with fail
    go_ret2
    exact⟨_,rfl,qm HX.out.row (by have:=HX.out.lt;omega),HX.out.b⟩
theorem V7(s:ByteArray)(w:World)(hW:DkW w)(hs:s.size<=1048576):Calls Tryz.prog 5 #[.string s] w (vN s w):=by
 by_cases h:4096<s.size\/60<(yD s).length
 . exact(Yf s w hW hs h).mono fun e w' hh=>by unfold vN;rw[if_pos h];exact hh
 . exact(XN s w hW (by omega) (by omega)).mono fun e w' hh=>by unfold vN;rw[if_neg h];exact hh
theorem zee(s:ByteArray)(w:World)(hW:DkW w)(hs:s.size<=1048576):Calls Tryz.prog 4 #[.string s] w (vN s w):=by
 by_cases h:4096<s.size\/60<(yD s).length
 . exact(Yu s w hW hs h).mono fun e w' hh=>by unfold vN;rw[if_pos h];exact hh
 . exact(XP s w hW (by omega) (by omega)).mono fun e w' hh=>by unfold vN;rw[if_neg h];exact hh
theorem zdD(f:Nat->ByteArray)(n:Nat)(ao bo:Option Addr)(ca cb:Nat)(w:World)(hn:n<=9223372036854775807)
 (hX:Hid (Reads w ao (zX n fun j=>.string (f j))))(hY:Hid (Reads w bo (zX n fun j=>.string (f j)))):
 Calls Tryz.prog 12 #[.slice ao n ca,.slice bo n cb] w fun e w'=>e=.returned (.bool true)/\∃q,w'=w.drewN q:=by
 go_enter Tryz.func12,Tryz.ntmps12
 go_wp2_with fail
 go_loopw [13] (fun vi wr=>∃k:Nat,vi=.int .i64 k/\k<=n/\∃q,wr=w.drewN q) (fun vi _=>n-(intOf vi).toNat)
 case atStart=>exact⟨0,rfl,by omega,0,rfl⟩
 case round=>
  obtain⟨k,rfl,hk,q,rfl⟩:=hrel;by_cases hkl:k<n
  . obtain⟨b,o,rfl,hc⟩:=hX.out k _ (zG _ hkl);obtain⟨b2,o2,rfl,hc2⟩:=hY.out k _ (zG _ hkl);obtain⟨x,hx⟩:∃x,f k=x:=⟨_,rfl⟩
    rw[hx]at hc hc2;have i0:(0:Int)<=(k:Int):=by omega
    have i1:(k:Int)<(n:Int):=by omega
    have hb1:(x.toList==x.toList)=true:=by simp
    have hb:(x.toList !=x.toList)=false:=by simp
    clear hx;go_wp2_with fail
    go_quiet (fail)
    go_wp2
    go_roundw
    case rel=>exact⟨k+1,by go_num,by omega,by first|exact⟨_,rfl⟩|exact dr2 _ _ _⟩
    case measure=>simp[intOf];omega
  . obtain rfl:k=n:=by omega
    go_wp2
    go_ret
    exact⟨rfl,_,rfl⟩
theorem zbx(l:List ByteArray):l.map Value.string=zX l.length fun j=>.string (l.getD j ByteArray.empty):=by
 apply List.ext_getElem?;intro i;by_cases hi:i<l.length
 . rw[zG _ hi,List.getElem?_map,List.getElem?_eq_getElem hi,List.getD_eq_getElem?_getD,List.getElem?_eq_getElem hi];rfl
 . rw[List.getElem?_eq_none (by rw[List.length_map];omega),List.getElem?_eq_none (by rw[zC];omega)]
theorem zby(l:List ByteArray)(ao bo:Option Addr)(ca cb:Nat)(w:World)(hn:l.length<=9223372036854775807)(hX:Reads w ao (l.map Value.string))(hY:Reads w bo (l.map Value.string)):
 Calls Tryz.prog 6 #[.slice ao l.length ca,.slice bo l.length cb] w fun e w'=>e=.returned (.bool true)/\Below w.heap.size w w':=by
 have CE:=zH (zdD (fun j=>l.getD j ByteArray.empty) l.length ao bo ca cb w hn (zH (by rw[<-zbx];exact hX)) (zH (by rw[<-zbx];exact hY)));obtain⟨n,hN⟩:∃n,l.length=n:=⟨_,rfl⟩
 rw[hN]at CE ⊢;clear hN hX hY;go_enter Tryz.func6,Tryz.ntmps6
 go_wp2_with fail
 (with_reducible refine CE.out.mono ?_);rintro e w2 ⟨rfl,q,rfl⟩
 go_wp2_with fail
 go_ret
 exact⟨rfl,zg (Below.refl _ _) _⟩
theorem zdE{w:World}{bs:Nat}{v:Value}{l:List ByteArray}(h:w.ownsRow bs 9 1 v l.length (l.map Value.string)):∃ao ca,v=.slice ao l.length ca/\Reads w ao (l.map Value.string)/\l.length<=9223372036854775807:=by
 obtain⟨ao,ca,hv,hR, -,hmx⟩:=zr h;unfold maxLen at hmx;exact⟨ao,ca,hv,hR,by omega⟩
theorem X2(s:ByteArray)(w:World)(hW:DkW w)(hs:s.size<=1048576):
 Calls Tryz.prog 3 #[.string s] w fun e w'=>e=.returned (.bool true)/\Below w.heap.size w w':=by
 by_cases hl:4096<s.size\/60<(yD s).length
 . have CA:Hid (Calls Tryz.prog 4 #[.string s] w fun e w'=>e=.returned (.tuple #[.slice none 0 0,.int .i64 2])/\Below w.heap.size w w'):=zH ((zee s w hW hs).mono fun e w' h=>by unfold vN at h;rw[if_pos hl]at h;exact h);have CB2:Hid (∀W,Below w.heap.size w W->Calls Tryz.prog 5 #[.string s] W fun e w'=>e=.returned (.tuple #[.slice none 0 0,.int .i64 2])/\Below W.heap.size W w'):=zH fun W hb=>(V7 s W (hW.below hb) hs).mono fun e w' h=>by unfold vN at h;rw[if_pos hl]at h;exact h
   have CE:=zH fun W=>zby [] none none 0 0 W (by simp) (fun j u hu=>by simp at hu) (fun j u hu=>by simp at hu)
   simp only[List.length_nil]at CE;clear hl;go_enter Tryz.func3,Tryz.ntmps3
   go_wp2_with fail
   (with_reducible refine CA.out.mono ?_);rintro e w1 ⟨rfl,hb1⟩
   go_wp2_with fail
   (with_reducible refine(CB2.out _ hb1).mono ?_);rintro e w2 ⟨rfl,hb2⟩
   have hb12:=hb1.trans (hb2.mono hb1.size);go_wp2_with (go_at_call 6;(with_reducible refine(CE.out _).mono ?_);rintro e w3 ⟨rfl,hb3⟩)
   go_ret
   exact⟨rfl,hb12.trans (hb3.mono hb12.size)⟩
 . obtain⟨l,hL⟩:∃l,(qQ (yD s)).2=l:=⟨_,rfl⟩
   have CA:Hid (Calls Tryz.prog 4 #[.string s] w fun e w'=>∃v,e=.returned (.tuple #[v,.int .i64 0])/\w'.ownsRow w.heap.size 9 1 v l.length (l.map Value.string)/\Below w.heap.size w w'):=zH ((zee s w hW hs).mono fun e w' h=>by unfold vN at h;rw[if_neg hl,hL]at h;exact h);have CB2:Hid (∀W,Below w.heap.size w W->Calls Tryz.prog 5 #[.string s] W fun e w'=>∃v,e=.returned (.tuple #[v,.int .i64 0])/\w'.ownsRow W.heap.size 9 1 v l.length (l.map Value.string)/\Below W.heap.size W w'):=zH fun W hb=>(V7 s W (hW.below hb) hs).mono fun e w' h=>by unfold vN at h;rw[if_neg hl,hL]at h;exact h
   clear hl hL;go_enter Tryz.func3,Tryz.ntmps3
   go_wp2_with fail
   (with_reducible refine CA.out.mono ?_);rintro e w1 ⟨v1,rfl,hown1,hb1⟩
   obtain⟨ao,ca,rfl,hR1,hmx⟩:=zdE hown1;have HR1:=zH hR1;clear hown1 hR1;go_wp2_with fail
   (with_reducible refine(CB2.out _ hb1).mono ?_);rintro e w2 ⟨v2,rfl,hown2,hb2⟩
   obtain⟨bo,cb,rfl,hR2, -⟩:=zdE hown2;have hb12:=hb1.trans (hb2.mono hb1.size);have CE:=zH (zby l ao bo ca cb w2 hmx (HR1.out.below hb2) hR2);clear hown2 hR2 hb2;go_wp2_with (go_at_call 6;(with_reducible refine CE.out.mono ?_);rintro e w3 ⟨rfl,hb3⟩)
   go_ret
   exact⟨rfl,hb12.trans (hb3.mono hb12.size)⟩
end Go.Proofs.YtmgfbmkfomebcaaGreatDoor
