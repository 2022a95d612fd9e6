/- The reference's without. -/
import Derived.Test.YtmgfbmkfomebcaaGreatDoorDkM23xRef2
import Derived.Test.YtmgfbmkfomebcaaGreatDoorDkM22
import Derived.Test.YtmgfbmkfomebcaaGreatDoorDkM16
import Derived.Test.YtmgfbmkfomebcaaGreatDoorDkM21
import Derived.Test.YtmgfbmkfomebcaaGreatDoorDkM13
import Derived.Test.YtmgfbmkfomebcaaGreatDoorDkM17
import Derived.Deep.RegionHeld
import Derived.Deep.RegionLaw
import Derived.Test.YtmgfbmkfomebcaaGreatDoorDkM8
import Derived.Deep.RegionHeld3
set_option linter.unusedVariables false
set_option linter.unusedSimpArgs false
set_option maxRecDepth 20000
set_option maxHeartbeats 1000000
namespace Go.Proofs.YtmgfbmkfomebcaaGreatDoor
open Go.RowKit
theorem zat(x:It)(i key B1 B2:Nat)(W:World)(c1:W.cell? ⟨B1,0,none⟩=some (.int .i64 (i:Int)))(c2:W.cell? ⟨B2,0,none⟩=some (.int .i64 (key:Int))):
 Calls Tryz.prog 113 #[itV x,.pointer (some ⟨B1,0,none⟩),.pointer (some ⟨B2,0,none⟩)] W (jS (atB i key x) W):=by
 obtain⟨a,b,c,s⟩:=x;unfold jS;have hba:=zc W (.cells #[.int .i64 (a:Int),.int .i64 (b:Int),.int .i64 (c:Int),.int .i64 0,.string s] 108);have e1:=(hba.cell (p:=⟨B1,0,none⟩) (World.block_lt_of_cell? W _ c1)).trans c1;have e2:=(hba.cell (p:=⟨B2,0,none⟩) (World.block_lt_of_cell? W _ c2)).trans c2;have HB:=zH hba;clear hba;by_cases h1:a=i
 . have t1:((a:Int)==(i:Int))=true:=by simp;omega
   by_cases h2:b=key
   . have t2:((b:Int)==(key:Int))=true:=by simp;omega
     have HA:Hid (atB i key (a,b,c,s)=true):=zH (by unfold atB;simp[h1,h2]);clear h1 h2;go_enter Tryz.func113,Tryz.ntmps113
     go_wp2_with fail
     go_ret
     exact⟨by rw[HA.out];rfl,HB.out⟩
   . have t2:((b:Int)==(key:Int))=false:=by simp;omega
     have HA:Hid (atB i key (a,b,c,s)=false):=zH (by unfold atB;simp[h2]);clear h1 h2;go_enter Tryz.func113,Tryz.ntmps113
     go_wp2_with fail
     go_ret
     exact⟨by rw[HA.out];rfl,HB.out⟩
 . have t1:((a:Int)==(i:Int))=false:=by simp;omega
   have HA:Hid (atB i key (a,b,c,s)=false):=zH (by unfold atB;simp[h1]);clear h1;go_enter Tryz.func113,Tryz.ntmps113
   go_wp2_with fail
   go_ret
   exact⟨by rw[HA.out];rfl,HB.out⟩
theorem zeg(x:It)(kind key:Int)(m B:Nat)(text:ByteArray)(W:World)(c2:W.cell? ⟨B,2,none⟩=some (.int .i64 (m:Int))):
 Calls Tryz.prog 51 #[itV x,.pointer (some ⟨B,0,none⟩)] W (jS (x.1==m) W):=by
 obtain⟨a,b,c,s⟩:=x;unfold jS;have hba:=zc W (.cells #[.int .i64 (a:Int),.int .i64 (b:Int),.int .i64 (c:Int),.int .i64 0,.string s] 108);have e2:=(hba.cell (p:=⟨B,2,none⟩) (World.block_lt_of_cell? W _ c2)).trans c2;have HB:=zH hba;clear hba;by_cases h1:a=m
 . have t1:((a:Int)==(m:Int))=true:=by simp;omega
   have HA:Hid (((a,b,c,s):It).1==m)=Hid (true=true):=by simp[h1]
   have HA2:Hid ((a==m)=true):=zH (by simp[h1]);clear h1 HA;go_enter Tryz.func51,Tryz.ntmps51
   go_wp2_with fail
   go_ret
   exact⟨by rw[show(((a,b,c,s):It).1==m)=true from HA2.out];rfl,HB.out⟩
 . have t1:((a:Int)==(m:Int))=false:=by simp;omega
   have HA2:Hid ((a==m)=false):=zH (by simp[h1]);clear h1;go_enter Tryz.func51,Tryz.ntmps51
   go_wp2_with fail
   go_ret
   exact⟨by rw[show(((a,b,c,s):It).1==m)=false from HA2.out];rfl,HB.out⟩
def zeh(l:List It)(w:World)(e:Ending)(w':World):Prop:=
 ∃ao cap,e=.returned (.slice ao l.length cap)/\w'.ownsRow w.heap.size 108 5 (.slice ao l.length cap) l.length (ze l)/\Below w.heap.size w w'
theorem ZP(l:List It)(n:Nat)(ao:Option Addr)(cap i key:Nat)(w:World)(hn:n<=30000000)(hl:l.length=n)(hnone:ao=none->n=0/\cap=0)(hR:Hid (Reads w ao (ze l))):
 Calls Tryz.prog 78 #[.slice ao n cap,.int .i64 (i:Int),.int .i64 (key:Int)] w (zeh (yw (atB i key) l) w):=by
 obtain⟨W1,hW1⟩:∃W1,(w.alloc (.cells #[.int .i64 (i:Int)] 3)).alloc (.cells #[.int .i64 (key:Int)] 3)=W1:=⟨_,rfl⟩
 have hb1:Below w.heap.size w W1:=by rw[<-hW1];exact(zc _ _).alloc (by simp) _
 have c1:W1.cell? ⟨w.heap.size,0,none⟩=some (.int .i64 (i:Int)):=by
  have h:W1.heap[w.heap.size]?=some (.cells #[.int .i64 (i:Int)] 3 (0,0)):=by rw[<-hW1];exact za _ _ (heap_alloc_new w _)
  rw[zd h];rfl
 have c2:W1.cell? ⟨w.heap.size+1,0,none⟩=some (.int .i64 (key:Int)):=by
  have h:W1.heap[w.heap.size+1]?=some (.cells #[.int .i64 (key:Int)] 3 (0,0)):=by rw[<-hW1];exact zl _ _ _ (by simp)
  rw[zd h];rfl
 have hz:W1.heap.size=w.heap.size+2:=by rw[<-hW1];simp
 have CC:=zH (kK l n ao cap W1.heap.size W1 hn hl hnone (zH (hR.out.below hb1)) (Nat.le_refl _));unfold Ys at CC;have CD:Hid (∀W ao' cap',Below W1.heap.size W1 W->W.ownsRow W1.heap.size 108 5 (.slice ao' n cap') n (ze l)->Calls Tryz.prog 49 #[.slice ao' n cap',.func (.func 113) #[] #[.pointer (some ⟨w.heap.size,0,none⟩),.pointer (some ⟨w.heap.size+1,0,none⟩)]] W (Ys W1.heap.size (yw (atB i key) l) (yw (atB i key) l).length W)):=zH fun W ao' cap' hb ho=>
  zbO (.pointer (some ⟨w.heap.size,0,none⟩)) (.pointer (some ⟨w.heap.size+1,0,none⟩)) (atB i key) l n ao' cap' W1.heap.size W hl hn ho hb.size (zH fun x _ W' hb'=>zat x i key _ _ W' (((hb.trans hb').cell (p:=⟨w.heap.size,0,none⟩) (show w.heap.size<W1.heap.size by rw[hz];omega)).trans c1) (((hb.trans hb').cell (p:=⟨w.heap.size+1,0,none⟩) (show w.heap.size+1<W1.heap.size by rw[hz];omega)).trans c2))
 unfold Ys at CD;have HB1:=zH hb1;have HZ:=zH hz;clear hb1 c1 c2 hz hl hnone;go_enter Tryz.func78,Tryz.ntmps78
 go_wp2_with fail
 (with_reducible refine CC.out.mono ?_)
 rintro e w2 ⟨ao2,cap2,rfl,ho2,hb2⟩;have HO2:=zH ho2;have HB2:=zH hb2;clear ho2 hb2 CC;go_wp2_with fail
 (with_reducible refine(CD.out _ _ _ HB2.out HO2.out).mono ?_)
 rintro e w3 ⟨ao3,cap3,rfl,ho3,hb3⟩;have HO3:=zH ho3;have HB3:=zH hb3;clear ho3 hb3 CD hW1;go_wp2_with fail
 go_ret
 exact⟨ao3,cap3,rfl,qm HO3.out (by rw[HZ.out];omega),HB1.out.trans ((HB2.out.trans HB3.out).mono HB1.out.size)⟩
def yo(n k wr r:Nat)(ao:Option Addr)(R:St×Tl×Nat)(w:World)(e:Ending)(w':World):Prop:=
 ∃(D':Nat) (All':List It) (ao':Option Addr) (cap':Nat),e=.returned (.tuple #[.agg (shC n k wr r D' R.1.wr (.slice ao' All'.length cap')),tellV R.2.1,.int .i64 (R.2.2:Nat)])/\Shl n D' All' R.1/\Reads w' ao' (ze All')/\(ao'=none->All'.length=0/\cap'=0)/\
  (ao'=ao\/∀a,ao'=some a->w.heap.size<=a.block/\a.block<w'.heap.size)/\Below w.heap.size w w'
theorem zD{w:World}{A B:Nat}{t t':TypeId}{x0 x1 x2 x3 x4 x5 x6 y0 y1 y2 y3:Value}(hne:A≠B)(hA:w.heap[A]?=some (.cells #[x0,x1,x2,x3,x4,x5,x6] t (0,0)))(hB:w.heap[B]?=some (.cells #[y0,y1,y2,y3] t' (0,0)))(a0 a1 a2 a3 a4 a5 a6 b0 b1 b2 b3:Value):
 ((((((((((((w.setCell ⟨A,0,none⟩ a0).setCell ⟨A,1,none⟩ a1).setCell ⟨A,2,none⟩ a2).setCell ⟨A,3,none⟩ a3).setCell ⟨A,4,none⟩ a4).setCell ⟨A,5,none⟩ a5).setCell ⟨A,6,none⟩ a6).setCell ⟨B,0,none⟩ b0).setCell ⟨B,1,none⟩ b1).setCell ⟨B,2,none⟩ b2).setCell ⟨B,3,none⟩ b3).heap[A]?=some (.cells #[a0,a1,a2,a3,a4,a5,a6] t (0,0)))/\
 ((((((((((((w.setCell ⟨A,0,none⟩ a0).setCell ⟨A,1,none⟩ a1).setCell ⟨A,2,none⟩ a2).setCell ⟨A,3,none⟩ a3).setCell ⟨A,4,none⟩ a4).setCell ⟨A,5,none⟩ a5).setCell ⟨A,6,none⟩ a6).setCell ⟨B,0,none⟩ b0).setCell ⟨B,1,none⟩ b1).setCell ⟨B,2,none⟩ b2).setCell ⟨B,3,none⟩ b3).heap[B]?=some (.cells #[b0,b1,b2,b3] t' (0,0))):=by
 have h1:=heap_set a6 (j:=6) (heap_set a5 (j:=5) (heap_set a4 (j:=4) (heap_set a3 (j:=3) (heap_set a2 (j:=2) (heap_set a1 (j:=1) (heap_set a0 (j:=0) hA))))));constructor
 . rw[zf _ (fun e:B=A=>hne e.symm),zf _ (fun e:B=A=>hne e.symm),zf _ (fun e:B=A=>hne e.symm),zf _ (fun e:B=A=>hne e.symm),h1];rfl
 . have h2:(((((((w.setCell ⟨A,0,none⟩ a0).setCell ⟨A,1,none⟩ a1).setCell ⟨A,2,none⟩ a2).setCell ⟨A,3,none⟩ a3).setCell ⟨A,4,none⟩ a4).setCell ⟨A,5,none⟩ a5).setCell ⟨A,6,none⟩ a6).heap[B]?=some (.cells #[y0,y1,y2,y3] t' (0,0)):=by
    rw[zf _ hne,zf _ hne,zf _ hne,zf _ hne,zf _ hne,zf _ hne,zf _ hne];exact hB
   rw[heap_set b3 (j:=3) (heap_set b2 (j:=2) (heap_set b1 (j:=1) (heap_set b0 (j:=0) h2)))];rfl
theorem Qe{w:World}{A B:Nat}{t t':TypeId}{x0 x1 x2 x3 x4 x5 x6 y0 y1 y2 y3:Value}(hne:A≠B)(hA:w.heap[A]?=some (.cells #[x0,x1,x2,x3,x4,x5,x6] t (0,0)))(hB:w.heap[B]?=some (.cells #[y0,y1,y2,y3] t' (0,0)))(a0 a1 a2 a3 a4 a5 a6 b0 b1 b2 b3:Value):
 ((((((((((((w.setCell ⟨B,0,none⟩ b0).setCell ⟨B,1,none⟩ b1).setCell ⟨B,2,none⟩ b2).setCell ⟨B,3,none⟩ b3).setCell ⟨A,0,none⟩ a0).setCell ⟨A,1,none⟩ a1).setCell ⟨A,2,none⟩ a2).setCell ⟨A,3,none⟩ a3).setCell ⟨A,4,none⟩ a4).setCell ⟨A,5,none⟩ a5).setCell ⟨A,6,none⟩ a6).heap[A]?=some (.cells #[a0,a1,a2,a3,a4,a5,a6] t (0,0)))/\
 ((((((((((((w.setCell ⟨B,0,none⟩ b0).setCell ⟨B,1,none⟩ b1).setCell ⟨B,2,none⟩ b2).setCell ⟨B,3,none⟩ b3).setCell ⟨A,0,none⟩ a0).setCell ⟨A,1,none⟩ a1).setCell ⟨A,2,none⟩ a2).setCell ⟨A,3,none⟩ a3).setCell ⟨A,4,none⟩ a4).setCell ⟨A,5,none⟩ a5).setCell ⟨A,6,none⟩ a6).heap[B]?=some (.cells #[b0,b1,b2,b3] t' (0,0))):=by
 have h1:=heap_set b3 (j:=3) (heap_set b2 (j:=2) (heap_set b1 (j:=1) (heap_set b0 (j:=0) hB)));constructor
 . have h2:((((w.setCell ⟨B,0,none⟩ b0).setCell ⟨B,1,none⟩ b1).setCell ⟨B,2,none⟩ b2).setCell ⟨B,3,none⟩ b3).heap[A]?=some (.cells #[x0,x1,x2,x3,x4,x5,x6] t (0,0)):=by
    rw[zf _ (fun e:B=A=>hne e.symm),zf _ (fun e:B=A=>hne e.symm),zf _ (fun e:B=A=>hne e.symm),zf _ (fun e:B=A=>hne e.symm)];exact hA
   rw[heap_set a6 (j:=6) (heap_set a5 (j:=5) (heap_set a4 (j:=4) (heap_set a3 (j:=3) (heap_set a2 (j:=2) (heap_set a1 (j:=1) (heap_set a0 (j:=0) h2))))))];rfl
 . rw[zf _ hne,zf _ hne,zf _ hne,zf _ hne,zf _ hne,zf _ hne,zf _ hne,h1];rfl
theorem zR{w:World}{A b o:Nat}{c a0 a1 a2 a3 a4 a5 a6:Value}(h:b≠A)(hc:w.cell? ⟨b,o,none⟩=some c):
 (((((((w.setCell ⟨A,0,none⟩ a0).setCell ⟨A,1,none⟩ a1).setCell ⟨A,2,none⟩ a2).setCell ⟨A,3,none⟩ a3).setCell ⟨A,4,none⟩ a4).setCell ⟨A,5,none⟩ a5).setCell ⟨A,6,none⟩ a6).cell? ⟨b,o,none⟩=some c:=
 z7 h (z7 h (z7 h (z7 h (z7 h (z7 h (z7 h hc))))))
theorem zV{w:World}{A b o:Nat}{c a0 a1 a2 a3:Value}(h:b≠A)(hc:w.cell? ⟨b,o,none⟩=some c):
 ((((w.setCell ⟨A,0,none⟩ a0).setCell ⟨A,1,none⟩ a1).setCell ⟨A,2,none⟩ a2).setCell ⟨A,3,none⟩ a3).cell? ⟨b,o,none⟩=some c:=
 z7 h (z7 h (z7 h (z7 h hc)))
theorem zh{w:World}{p:Addr}{c:Value}(h:w.cell? p=some c):w.drew.cell? p=some c:=h
theorem zj{w0 w:World}{bs A:Nat}(h:Below bs w0 w)(hA:bs<=A)(a0 a1 a2 a3 a4 a5 a6:Value):Below bs w0 (((((((w.setCell ⟨A,0,none⟩ a0).setCell ⟨A,1,none⟩ a1).setCell ⟨A,2,none⟩ a2).setCell ⟨A,3,none⟩ a3).setCell ⟨A,4,none⟩ a4).setCell ⟨A,5,none⟩ a5).setCell ⟨A,6,none⟩ a6):=
 zk (zk (zk (zk (zk (zk (zk h hA _) hA _) hA _) hA _) hA _) hA _) hA _
theorem zn{w0 w:World}{bs A:Nat}(h:Below bs w0 w)(hA:bs<=A)(a0 a1 a2 a3:Value):Below bs w0 ((((w.setCell ⟨A,0,none⟩ a0).setCell ⟨A,1,none⟩ a1).setCell ⟨A,2,none⟩ a2).setCell ⟨A,3,none⟩ a3):=
 zk (zk (zk (zk h hA _) hA _) hA _) hA _
theorem ZL(l:List It)(i key i' key':Nat):zP (yw (atB i key) l) i' key'=if i'=i/\key'=key then[] else zP l i' key':=by
 unfold zP yw;rw[List.filter_filter];by_cases h:i'=i/\key'=key
 . rw[if_pos h,h.1,h.2];rw[List.filter_eq_nil_iff.2 (by intro x _;cases atB i key x<;>simp)];rfl
 . rw[if_neg h]
   congr 1
   apply List.filter_congr;intro x _;rw[Bool.eq_iff_iff];unfold atB;simp;omega
theorem za8(l:List It)(i key a:Nat)(p:ByteArray)(i' key':Nat):zP (l++[(i,key,a,p)]) i' key'=zP l i' key'++if i'=i/\key'=key then[(a,p)] else[]:=by
 unfold zP;rw[List.filter_append,List.map_append];by_cases h:i'=i/\key'=key
 . rw[if_pos h,h.1,h.2];have e:atB i key (i,key,a,p)=true:=by simp[atB]
   rw[List.filter_cons,if_pos e];rfl
 . rw[if_neg h];have e:¬atB i' key' (i,key,a,p)=true:=by
    unfold atB;simp;omega
   rw[List.filter_cons,if_neg e];rfl
theorem VT{p:It->Bool}{l:List It}{x:It}(h:x∈yw p l):x∈l:=(List.mem_filter.1 h).1
theorem VU(p:It->Bool)(l:List It):(yw p l).length<=l.length:=List.length_filter_le _ _
def kS(key:Nat)(U:List Nat)(l:List It):List It:=U.foldl (fun l i=>yw (atB i key) l) l
theorem Xv(key:Nat):∀(U:List Nat) (l:List It) (i' key':Nat),zP (kS key U l) i' key'=if i'∈U/\key'=key then[] else zP l i' key'
 |[],l,i',key'=>by rw[if_neg (by simp)];rfl
 |i::t,l,i',key'=>by
  show zP (kS key t (yw (atB i key) l)) i' key'=_;rw[Xv key t,ZL];by_cases h1:i'∈t/\key'=key
  . rw[if_pos h1,if_pos ⟨by simp[h1.1],h1.2⟩]
  . rw[if_neg h1];by_cases h2:i'=i/\key'=key
    . rw[if_pos h2,if_pos ⟨by simp[h2.1],h2.2⟩]
    . rw[if_neg h2,if_neg (by
       rintro⟨h3,h4⟩;rcases List.mem_cons.1 h3 with h3|h3
       . exact h2 ⟨h3,h4⟩
       . exact h1 ⟨h3,h4⟩)]
theorem VV(key:Nat):∀(U:List Nat) (l:List It) (x:It),x∈kS key U l->x∈l
 |[],_,_,h=>h
 |i::t,l,x,h=>VT (VV key t _ x h)
theorem VW(key:Nat):∀(U:List Nat) (l:List It),(kS key U l).length<=l.length
 |[],_=>Nat.le_refl _
 |i::t,l=>Nat.le_trans (VW key t _) (VU _ _)
def vv(key a k:Nat)(text:ByteArray)(U:List Nat)(l:List It):List It:=l++U.map fun i=>(i,key,a,pcs text k i)
theorem Zk(key a k:Nat)(text:ByteArray):∀(U:List Nat) (_:U.Nodup) (l:List It) (i' key':Nat),zP (vv key a k text U l) i' key'=zP l i' key'++if i'∈U/\key'=key then[(a,pcs text k i')] else[]
 |[],_,l,i',key'=>by
  rw[if_neg (by simp)];unfold vv;simp
 |i::t,hu,l,i',key'=>by
  rw[List.nodup_cons]at hu;have e:vv key a k text (i::t) l=vv key a k text t (l++[(i,key,a,pcs text k i)]):=by unfold vv;simp
  rw[e,Zk key a k text t hu.2,za8,List.append_assoc]
  congr 1
  by_cases h1:i'∈t/\key'=key
  . have e1:i'∈i::t/\key'=key:=⟨List.mem_cons_of_mem _ h1.1,h1.2⟩
    have e2:¬(i'=i/\key'=key):=fun h2=>hu.1 (h2.1 ▸ h1.1)
    rw[if_pos h1,if_pos e1,if_neg e2];rfl
  . rw[if_neg h1];by_cases h2:i'=i/\key'=key
    . rw[if_pos h2,if_pos ⟨by simp[h2.1],h2.2⟩,h2.1];rfl
    . rw[if_neg h2,if_neg (by
       rintro⟨h3,h4⟩;rcases List.mem_cons.1 h3 with h3|h3
       . exact h2 ⟨h3,h4⟩
       . exact h1 ⟨h3,h4⟩)];rfl
theorem zbE{a k key:Nat}{text:ByteArray}:∀(U:List Nat) (st:St) (i' key':Nat),(U.foldl (putS a k text key) st).kp i' key'=if i'∈U/\key'=key then[(a,pcs text k i')] else st.kp i' key'
 |[],_,_,_=>by rw[if_neg (by simp)];rfl
 |i::t,st,i',key'=>by
  rw[List.foldl_cons,zbE t];by_cases h1:i'∈t/\key'=key
  . rw[if_pos h1,if_pos ⟨by simp[h1.1],h1.2⟩]
  . rw[if_neg h1];unfold putS;by_cases h2:i'=i/\key'=key
    . rw[h2.1,h2.2,St.set_at,if_pos (by simp)]
    . rw[St.set_far _ _ (by omega),if_neg (by
       rintro⟨h3,h4⟩;rcases List.mem_cons.1 h3 with h3|h3
       . exact h2 ⟨h3,h4⟩
       . exact h1 ⟨h3,h4⟩)]
theorem zaa{a k key:Nat}{text:ByteArray}:∀(U:List Nat) (_:U.Nodup) (st:St) (i' key':Nat),(U.foldl (qo a k text key) st).kp i' key'=st.kp i' key'++if i'∈U/\key'=key then[(a,pcs text k i')] else[]
 |[],_,_,_,_=>by rw[if_neg (by simp)];simp
 |i::t,hu,st,i',key'=>by
  rw[List.nodup_cons]at hu;rw[List.foldl_cons,zaa t hu.2];unfold qo;by_cases h2:i'=i/\key'=key
  . rw[h2.1,h2.2,St.set_at,if_neg (fun h=>hu.1 h.1),if_pos (by simp)];simp
  . rw[St.set_far _ _ (by omega)]
    congr 1
    by_cases h1:i'∈t/\key'=key
    . rw[if_pos h1,if_pos ⟨by simp[h1.1],h1.2⟩]
    . rw[if_neg h1,if_neg (by
       rintro⟨h3,h4⟩;rcases List.mem_cons.1 h3 with h3|h3
       . exact h2 ⟨h3,h4⟩
       . exact h1 ⟨h3,h4⟩)]
theorem zd1{a k key:Nat}{text:ByteArray}(U:List Nat)(st:St):(U.foldl (qo a k text key) st).dn=st.dn:=by
 induction U generalizing st with
 |nil=>rfl
 |cons i t ih=>rw[List.foldl_cons,ih];rfl
theorem zd2{a k key:Nat}{text:ByteArray}(U:List Nat)(st:St):(U.foldl (putS a k text key) st).dn=st.dn:=by
 induction U generalizing st with
 |nil=>rfl
 |cons i t ih=>rw[List.foldl_cons,ih];rfl
theorem XR(l m:List It)(i key:Nat):zP (l++m) i key=zP l i key++zP m i key:=by
 unfold zP;rw[List.filter_append,List.map_append]
theorem zaG(i key:Nat)(l:List Kp)(i' key':Nat):zP (l.map fun x=>(i,key,x)) i' key'=if i'=i/\key'=key then l else[]:=by
 unfold zP;by_cases h:i'=i/\key'=key
 . rw[if_pos h,h.1,h.2,List.filter_eq_self.2 (by
    intro x hx;obtain⟨y,_,rfl⟩:=List.mem_map.1 hx;simp[atB]),List.map_map]
   exact List.map_id' _
 . rw[if_neg h,List.filter_eq_nil_iff.2 (by
    intro x hx;obtain⟨y,_,rfl⟩:=List.mem_map.1 hx;unfold atB;simp;omega)]
   rfl
def jo(k:Nat)(text:ByteArray)(a key:Nat)(l:List It)(i:Nat):List It:=yw (atB i key) l++(YX a (pcs text k i) (zP l i key)).map fun x=>(i,key,x)
theorem zb3(k:Nat)(text:ByteArray)(a key:Nat)(l:List It)(i i' key':Nat):zP (jo k text a key l i) i' key'=if i'=i/\key'=key then YX a (pcs text k i) (zP l i key) else zP l i' key':=by
 unfold jo;rw[XR,ZL,zaG];by_cases h:i'=i/\key'=key
 . rw[if_pos h,if_pos h,if_pos h];rfl
 . rw[if_neg h,if_neg h,if_neg h,List.append_nil]
theorem Shl.fix{n D k key a:Nat}{All:List It}{st:St}{text:ByteArray}(h:Shl n D All st)(hs:text.size<=60)(hk:1<=k)(hkey:key<3)(ha:1<=a)(ha2:a<=st.wr){i:Nat}(hi:i<n)(m:Nat):
 Shl n D (jo k text a key All i) (qw k text a key (st,m) i).1:=by
 refine⟨fun i' key' hi' hk'=>?_,h.dn,h.d,fun x hx=>?_,h.ok.fix i key a ha ha2 (kM _ _ _ hs hk)⟩
 . rw[zb3];show _=(st.set i key (YX a (pcs text k i) (st.kp i key))).kp i' key';by_cases hh:i'=i/\key'=key
   . rw[if_pos hh,hh.1,hh.2,St.set_at,h.kp i key hi hkey]
   . rw[if_neg hh,St.set_far _ _ (by omega)];exact h.kp i' key' hi' hk'
 . unfold jo at hx;rcases List.mem_append.1 hx with hx|hx
   . exact h.it x (VT hx)
   . obtain⟨y,_,rfl⟩:=List.mem_map.1 hx;exact⟨hi,hkey⟩
theorem Shl.fixes{n D k key a:Nat}{text:ByteArray}(hs:text.size<=60)(hk:1<=k)(hkey:key<3)(ha:1<=a):∀(U:List Nat) (_:∀i∈U,i<n) (All:List It) (P:St×Nat),Shl n D All P.1->a<=P.1.wr->
 Shl n D (U.foldl (jo k text a key) All) (U.foldl (qw k text a key) P).1
 |[],_,_,_,h,_=>h
 |i::t,hu,All,(st,m),h,h2=>Shl.fixes hs hk hkey ha t (fun j hj=>hu j (by simp[hj])) (jo k text a key All i) (qw k text a key (st,m) i) (h.fix hs hk hkey ha h2 (hu i (by simp)) m) h2
theorem zb4{l:List Kp}(h:l.Pairwise (fun x y=>x.1<y.1)){j:Nat}{x:Kp}(hx:l[j]?=some x):vu l x.1=x.2:=by
 have:l.find? (fun y=>y.1==x.1)=some x:=by
  induction l generalizing j with
  |nil=>simp at hx
  |cons y t ih=>
   have h2:=List.pairwise_cons.1 h;cases j with
   |zero=>simp at hx;subst hx;simp
   |succ j=>
    have hx2:t[j]?=some x:=by simpa using hx
    have hlt:=h2.1 x (List.mem_of_getElem? hx2);rw[List.find?_cons,show(y.1==x.1)=false by rw[beq_eq_false_iff_ne];omega];exact ih h2.2 hx2
 unfold vu;rw[this]
noncomputable def wrF(n k wr:Nat)(st:St)(kind:Int)(key:Nat)(m:Int)(text:ByteArray):St×Tl×Nat:=if kind=2 then vT n k wr st key m text else ZZ n k wr st key text
theorem pB{n k wr:Nat}{st:St}{kind:Int}{key:Nat}{m:Int}{text:ByteArray}(h:qM n wr st text≠0):wrF n k wr st kind key m text=(st,Tl.no,qM n wr st text):=by
 unfold wrF
 split
 . unfold vT;rw[if_pos h]
 . unfold ZZ;rw[if_pos h]
theorem VD(key a k:Nat)(text:ByteArray){U:List Nat}{j i:Nat}(l:List It)(h:U[j]?=some i):vv key a k text (U.take (j+1)) l=vv key a k text (U.take j) l++[(i,key,a,pcs text k i)]:=by
 unfold vv;rw[qF h,List.map_append,List.append_assoc];rfl
theorem qG{w:World}{base e size:Nat}{v:Value}{n:Nat}{xs:List Value}(h:w.ownsRow base e size v n xs){B j:Nat}(hB:B<base)(u:Value):(w.setCell ⟨B,j,none⟩ u).ownsRow base e size v n xs:=by
 refine⟨h.1,?_⟩;rcases h.2 with hn|⟨g,cap,cur,rfl,hbg,hg,rest⟩
 . exact .inl hn
 . exact .inr ⟨g,cap,cur,rfl,hbg,by rw[zf _ (by omega)];exact hg,rest⟩
theorem Qz{w:World}{base e size:Nat}{v:Value}{n:Nat}{xs:List Value}(h:w.ownsRow base e size v n xs){B:Nat}(hB:B<base)(a0 a1 a2 a3:Value):
 ((((w.setCell ⟨B,0,none⟩ a0).setCell ⟨B,1,none⟩ a1).setCell ⟨B,2,none⟩ a2).setCell ⟨B,3,none⟩ a3).ownsRow base e size v n xs:=
 qG (qG (qG (qG h hB _) hB _) hB _) hB _
theorem pC{w:World}{base e size:Nat}{v:Value}{n:Nat}{xs:List Value}(h:w.ownsRow base e size v n xs){A:Nat}(hA:A<base)(a0 a1 a2 a3 a4 a5 a6:Value):
 (((((((w.setCell ⟨A,0,none⟩ a0).setCell ⟨A,1,none⟩ a1).setCell ⟨A,2,none⟩ a2).setCell ⟨A,3,none⟩ a3).setCell ⟨A,4,none⟩ a4).setCell ⟨A,5,none⟩ a5).setCell ⟨A,6,none⟩ a6).ownsRow base e size v n xs:=
 qG (qG (qG (qG (qG (qG (qG h hA _) hA _) hA _) hA _) hA _) hA _) hA _
theorem Q8{w:World}{base e size:Nat}{ao:Option Addr}{n cap:Nat}{xs:List Value}(h:w.ownsRow base e size (.slice ao n cap) n xs):Reads w.drew ao xs/\(ao=none->n=0/\cap=0)/\∀a,ao=some a->base<=a.block/\a.block<w.heap.size:=by
 obtain⟨a',c',hv,hr,hn,_⟩:=zr h;cases hv;exact⟨hr,hn,fun a ha=>h.lt a.block (by rw[ha];rfl)⟩
theorem JA(key a k:Nat)(text:ByteArray)(U:List Nat)(l:List It):(vv key a k text U l).length=l.length+U.length:=by
 unfold vv;rw[List.length_append,List.length_map]
theorem Shl.put{n D k key:Nat}{All:List It}{st:St}{text:ByteArray}(h:Shl n D All st)(hs:text.size<=60)(hk:1<=k)(hkey:key<3)(hw:st.wr≠1000000):
 Shl n D (vv key (st.wr+1) k text (ups n st) (kS key (ups n st) All)) ((ups n st).foldl (putS (st.wr+1) k text key) st.up1):=by
 refine⟨fun i key' hi hk'=>?_,fun i hi=>by rw[zd2];exact h.dn i hi,h.d,fun x hx=>?_,?_⟩
 . have hnd:(ups n st).Nodup:=vS _ _;rw[Zk _ _ _ _ _ hnd,Xv,zbE];by_cases hh:i∈ups n st/\key'=key
   . rw[if_pos hh,if_pos hh,if_pos hh];rfl
   . rw[if_neg hh,if_neg hh,if_neg hh,List.append_nil];exact h.kp i key' hi hk'
 . unfold vv at hx;rcases List.mem_append.1 hx with hx|hx
   . exact h.it x (VV _ _ _ _ hx)
   . obtain⟨i,hi,rfl⟩:=List.mem_map.1 hx;exact⟨(vP.1 hi).1,hkey⟩
 . exact(Yi (a:=st.wr+1) (k:=k) (key:=key) hs hk (by omega) (ups n st) st.up1 (h.ok.up1 hw) (Nat.le_refl _)).1
theorem Shl.torn{n D k key:Nat}{All:List It}{st:St}{text:ByteArray}(h:Shl n D All st)(hs:text.size<=60)(hk:1<=k)(hkey:key<3)(hw:st.wr≠1000000)(UM:List Nat)(hu:UM.Nodup)(hn:∀i∈UM,i<n):
 Shl n D (vv key (st.wr+1) k text UM All) (UM.foldl (qo (st.wr+1) k text key) st.up1):=by
 refine⟨fun i key' hi hk'=>?_,fun i hi=>by rw[zd1];exact h.dn i hi,h.d,fun x hx=>?_,?_⟩
 . rw[Zk _ _ _ _ _ hu,zaa _ hu,h.kp i key' hi hk'];rfl
 . unfold vv at hx;rcases List.mem_append.1 hx with hx|hx
   . exact h.it x hx
   . obtain⟨i,hi,rfl⟩:=List.mem_map.1 hx;exact⟨hn i hi,hkey⟩
 . exact(QN (a:=st.wr+1) (k:=k) (key:=key) hs hk (by omega) UM st.up1 hu (h.ok.up1 hw) (Nat.le_refl _) (fun i _ x hx=>by
    have:=(h.ok.rng i key x hx).2.1;omega)).1
theorem Yk(D i:Nat):decide (D / 2^i%2=1)=D.testBit i:=(Nat.testBit_eq_decide_div_mod_eq).symm
theorem Kn{m:Nat}(h:m<16):2^m<65536:=Nat.pow_lt_pow_right (by omega) h
theorem Shl.down{n D:Nat}{All:List It}{st:St}(h:Shl n D All st){m:Nat}(hm:m<16):Shl n (D ||| 2^m) All (st.down m true):=by
 refine⟨h.kp,fun i hi=>?_,Nat.or_lt_two_pow (n:=16) h.d (Kn hm),h.it,h.ok.down m true⟩;show(if i=m then true else st.dn i)=_;rw[Yk,Nat.testBit_or,Nat.testBit_two_pow,<-Yk,<-h.dn i hi];by_cases he:i=m
 . rw[if_pos he,he];simp
 . rw[if_neg he];have:decide (m=i)=false:=by simpa using fun e:m=i=>he e.symm
   rw[this,Bool.or_false]
theorem Shl.upn{n D:Nat}{All:List It}{st:St}(h:Shl n D All st){m:Nat}(hm:m<16):Shl n (D ^^^ (D &&& 2^m)) All (st.down m false):=by
 refine⟨h.kp,fun i hi=>?_,Nat.xor_lt_two_pow (n:=16) h.d (Nat.and_lt_two_pow (n:=16) _ (Kn hm)),h.it,h.ok.down m false⟩;show(if i=m then false else st.dn i)=_;rw[Yk,Nat.testBit_xor,Nat.testBit_and,Nat.testBit_two_pow,<-Yk,<-h.dn i hi];by_cases he:i=m
 . rw[if_pos he,he];simp
 . rw[if_neg he];have:decide (m=i)=false:=by simpa using fun e:m=i=>he e.symm
   rw[this,Bool.and_false,Bool.xor_false]
theorem YE(a b:Nat)(ha:a<65536)(hb:b<65536):bits .andNot .u16 (a:Int) (b:Int)=((a ^^^ (a &&& b):Nat):Int):=by
 have hx:a ^^^ (a &&& b)<2^16:=Nat.xor_lt_two_pow (by omega) (Nat.and_lt_two_pow _ (by omega));have e:(BitVec.ofInt 16 (a:Int) &&& ~~~ BitVec.ofInt 16 (b:Int)).toNat=a ^^^ (a &&& b):=by
  have h1:=kD a ha;have h2:=kD b hb;apply Nat.eq_of_testBit_eq;intro i;have g1:a.testBit i=(BitVec.ofInt 16 (a:Int)).getLsbD i:=by rw[<-BitVec.testBit_toNat,h1]
  have g2:b.testBit i=(BitVec.ofInt 16 (b:Int)).getLsbD i:=by rw[<-BitVec.testBit_toNat,h2]
  rw[Nat.testBit_xor,Nat.testBit_and,BitVec.testBit_toNat,BitVec.getLsbD_and,BitVec.getLsbD_not,g1,g2];clear g1 g2 h1 h2;obtain⟨p,hp⟩:∃p,(BitVec.ofInt 16 (a:Int)).getLsbD i=p:=⟨_,rfl⟩
  obtain⟨q,hq⟩:∃q,(BitVec.ofInt 16 (b:Int)).getLsbD i=q:=⟨_,rfl⟩
  by_cases hi:i<16
  . rw[hp,hq,decide_eq_true hi];cases p<;>cases q<;>rfl
  . rw[BitVec.getLsbD_of_ge _ _ (by omega:16<=i)];simp
 show IntKind.u16.wrap ((BitVec.ofInt 16 (a:Int) &&& ~~~ BitVec.ofInt 16 (b:Int)).toNat:Int)=_;rw[e];exact jV _ (by omega)
theorem Shl.lose{n D:Nat}{All:List It}{st:St}(h:Shl n D All st)(m:Nat):Shl n D (All.filter (fun x=> !(x.1==m))) (st.lose m):=by
 refine⟨fun i key hi hk=>?_,h.dn,h.d,fun x hx=>h.it x (List.mem_filter.1 hx).1,h.ok.lose m⟩;show _=(if i=m then[] else st.kp i key)
 unfold zP;rw[List.filter_filter];by_cases he:i=m
 . rw[if_pos he,List.filter_eq_nil_iff.2 (by
    intro x _;unfold atB;simp;omega)]
   rfl
 . rw[if_neg he,<-h.kp i key hi hk];unfold zP
   congr 1
   apply List.filter_congr;intro x _;rw[Bool.eq_iff_iff];unfold atB;simp;omega
theorem pE{wq W:World}{A B:Nat}{al:Option Addr}{FU:List It}{T T':TypeId}(hz:wq.heap[A]?=some (.cells #[.int .i64 0,.int .i64 0,.int .i64 0,.int .i64 0,.int .u16 0,.int .i64 0,.slice none 0 0] T (0,0)))(ht:wq.heap[B]?=some (.cells #[.string ⟨#[]⟩,.int .i64 0,.int .i64 0,.int .i64 0] T' (0,0)))(hRl:Reads wq al (ze FU))
 (hfar:∀b o c,b≠A->b≠B->wq.cell? ⟨b,o,none⟩=some c->W.cell? ⟨b,o,none⟩=some c):Reads W al (ze FU):=by
 cases FU with
 |nil=>intro q v hv;simp[ze]at hv
 |cons x t=>
  have h4:=je (l:=x::t) (j:=0) (x:=x) rfl 4 (by omega);obtain⟨b,o,hb,hc⟩:=hRl (0*5+4) (.string x.2.2.2) (by rw[h4];rfl);have hbA:b≠A:=by
   intro e;rw[e,zd hz]at hc
   match o,hc with
   |0,hc=>simp at hc
   |1,hc=>simp at hc
   |2,hc=>simp at hc
   |q+3,hc=>simp at hc
  have hbB:b≠B:=by
   intro e;rw[e,zd ht]at hc;simp at hc
  intro q v hv;obtain⟨b',o',hb',hc'⟩:=hRl q v hv;rw[hb]at hb';cases hb';exact⟨b,o,hb,hfar _ _ _ hbA hbB hc'⟩
theorem ze2{n k wr r:Nat}{st:St}{kind key m:Int}{text:ByteArray}(h:kind<1\/8<kind\/(pa kind=true/\(key<0\/2<key))):doF n k wr r st kind key m text=(st,Tl.no,1):=by
 unfold doF;rw[if_pos];rcases h with h|h|h
 . exact .inl h
 . exact .inr (.inl h)
 . refine .inr (.inr ⟨?_,h.2⟩);have h1:=h.1;unfold pa at h1;unfold jl;simp at h1 ⊢;omega
end Go.Proofs.YtmgfbmkfomebcaaGreatDoor
