/- Rows of bytes of the call's own in a slice of the call's own: 'parts[j] = append(parts[j], b)'. -/
import Derived.Test.YtmgfbmkfomebcaaGreatDoorDkM9
import Derived.Test.YtmgfbmkfomebcaaGreatDoorDkM3
import Derived.ArgAppend
import Derived.Test.YtmgfbmkfomebcaaGreatDoorRows
import Derived.Test.YtmgfbmkfomebcaaGreatDoorDkM8
import Derived.Test.YtmgfbmkfomebcaaGreatDoorDkM7
import Derived.Deep.RegionHeld3
import Derived.Deep.RegionLaw
import Derived.Deep.DrawnRows
import Derived.Test.YtmgfbmkfomebcaaGreatDoorDkM1
set_option linter.unusedVariables false
set_option linter.unusedSimpArgs false
set_option maxRecDepth 100000
set_option maxHeartbeats 4000000
namespace Go.Proofs.YtmgfbmkfomebcaaGreatDoor
open Go.RowKit
def Parts(w:World)(base gp n:Nat)(len:Nat->Nat)(F:Nat->Nat->Nat)(X:Nat->Prop):Prop:=
 X gp/\(∀g,X g->g<w.heap.size)/\∃V:Nat->Value,Own w base 113 gp n n V/\(∀j,j<n->w.ownsRow base 5 1 (V j) (len j) (pI (len j) (F j))/\∀g,(V j).ownBlock=some g->¬X g)/\∀i j,i<n->j<n->i≠j->Apart (V i) (V j)
theorem Parts.below{w w':World}{base gp n:Nat}{len:Nat->Nat}{F:Nat->Nat->Nat}{X:Nat->Prop}(h:Parts w base gp n len F X)(hb:Below w.heap.size w w'):Parts w' base gp n len F X:=by
 obtain⟨h1,h2,V,h3,h4,h5⟩:=h;exact⟨h1,fun g hg=>Nat.lt_of_lt_of_le (h2 g hg) hb.size,V,h3.below hb,fun j hj=>⟨zi (h4 j hj).1 hb,(h4 j hj).2⟩,h5⟩
theorem Parts.lt{w:World}{base gp n:Nat}{len:Nat->Nat}{F:Nat->Nat->Nat}{X:Nat->Prop}(h:Parts w base gp n len F X):base<=gp/\gp<w.heap.size:=by
 obtain⟨h1,h2,V,h3,h4,h5⟩:=h;exact h3.lt
theorem Parts.congr{w:World}{base gp n:Nat}{len len':Nat->Nat}{F:Nat->Nat->Nat}{X:Nat->Prop}(h:Parts w base gp n len F X)(hl:∀j,j<n->len j=len' j):Parts w base gp n len' F X:=by
 obtain⟨h1,h2,V,h3,h4,h5⟩:=h;exact⟨h1,h2,V,h3,fun j hj=>by rw[<-hl j hj];exact h4 j hj,h5⟩
theorem Parts.widen{w w':World}{base gp n:Nat}{len:Nat->Nat}{F:Nat->Nat->Nat}{X:Nat->Prop}(h:Parts w base gp n len F X)(hb:Below w.heap.size w w'){g:Nat}(h1:w.heap.size<=g)(h2:g<w'.heap.size):Parts w' base gp n len F (fun k=>X k\/k=g):=by
 obtain⟨k1,k2,V,k3,k4,k5⟩:=h;refine⟨.inl k1,fun q hq=>?_,V,k3.below hb,fun j hj=>⟨zi (k4 j hj).1 hb,fun q hq=>?_⟩,k5⟩
 . rcases hq with hq|rfl
   . exact Nat.lt_of_lt_of_le (k2 q hq) hb.size
   . exact h2
 . rintro(hx|rfl)
   . exact(k4 j hj).2 q hq hx
   . have:=((k4 j hj).1.lt q hq).2;omega
theorem Parts.narrow{w:World}{base gp n:Nat}{len:Nat->Nat}{F:Nat->Nat->Nat}{X X':Nat->Prop}(h:Parts w base gp n len F X)(hx:∀g,X' g->X g)(hg:X' gp):Parts w base gp n len F X':=by
 obtain⟨k1,k2,V,k3,k4,k5⟩:=h;exact⟨hg,fun g h=>k2 g (hx g h),V,k3,fun j hj=>⟨(k4 j hj).1,fun g hq h=>(k4 j hj).2 g hq (hx g h)⟩,k5⟩
theorem Parts.kept{w w':World}{base gp n:Nat}{len:Nat->Nat}{F:Nat->Nat->Nat}{X:Nat->Prop}(h:Parts w base gp n len F X){g:Nat}(hg:w.grownBy w' (some g))(hX:X g)(hne:gp≠g):Parts w' base gp n len F X:=by
 obtain⟨k1,k2,V,k3,k4,k5⟩:=h;refine⟨k1,fun q hq=>Nat.lt_of_lt_of_le (k2 q hq) hg.size,V,k3.kept hg hne,fun j hj=>⟨(k4 j hj).1.kept hg ?_,(k4 j hj).2⟩,k5⟩;cases hv:(V j).ownBlock with
 |none=>exact .inl rfl
 |some q=>right;intro he;injection he with he;subst he;exact(k4 j hj).2 q hv hX
theorem Parts.get{w:World}{base gp n:Nat}{len:Nat->Nat}{F:Nat->Nat->Nat}{X:Nat->Prop}(h:Parts w base gp n len F X){j:Nat}(hj:j<n):
 ∃v,w.cell? ⟨gp,j,none⟩=some v/\w.ownsRow base 5 1 v (len j) (pI (len j) (F j))/\
  ∀v1 w1,w1.ownsRow base 5 1 v1 (len j+1) (pI (len j) (F j)++[.int .u8 (F j (len j):Nat)])->(w.alloc (.cells #[.int .u8 (F j (len j):Nat)] 5)).grownBy w1 v.ownBlock->(v1.ownBlock=v.ownBlock\/v1.ownBlock=some (w.heap.size+1))->
   (∃u,w1.cell? ⟨gp,j,none⟩=some u)/\w1.frozen? ⟨gp,j,none⟩=false/\Parts (w1.setCell ⟨gp,j,none⟩ v1) base gp n (fun t=>if t=j then len t+1 else len t) F X/\
   (∀g,X g->some g≠v.ownBlock):=by
 obtain⟨k1,k2,V,k3,k4,k5⟩:=h;refine⟨V j,k3.cell hj,(k4 j hj).1,fun v1 w1 hown hgr hat=>?_⟩;have hXb:∀g,X g->some g≠(V j).ownBlock:=fun g hg he=>(k4 j hj).2 g he.symm hg
 have hb1:Below w.heap.size w (w.alloc (.cells #[.int .u8 (F j (len j):Nat)] 5)):=(Below.refl _ _).alloc (Nat.le_refl _) _;have h3:Own w1 base 113 gp n n V:=World.ownsRow.kept (k3.below hb1) hgr (.inr (hXb gp k1));have s3:=h3.store j v1;refine⟨⟨_,h3.cell hj⟩,h3.frozen j,⟨k1,fun g hg=>?_,fun t=>if t=j then v1 else V t,s3.1,fun t ht=>?_,fun s t hs ht hst=>?_⟩,hXb⟩
 . have:=k2 g hg;have h1:=hgr.size;have h2:=s3.2.size;rw[World.size_alloc]at h1;omega
 . by_cases htj:t=j
   . subst htj;simp only[if_true];refine⟨?_,fun g hg hx=>?_⟩
     . rw[Vt];refine hown.kept s3.2 ?_;cases hv:v1.ownBlock with
       |none=>exact .inl rfl
       |some q=>
        right;intro he;injection he with he;subst he
        rcases hat with hat|hat
        . rw[hv]at hat;exact hXb q k1 hat
        . rw[hv]at hat;injection hat with hat
          have:=k2 q k1;omega
     . rcases hat with hat|hat
       . rw[hg]at hat;exact hXb g hx hat
       . rw[hg]at hat;injection hat with hat
         have:=k2 g hx;omega
   . simp only[if_neg htj];have hk:=za7 (k4 t ht).1 hgr (k5 j t hj ht (fun e=>htj e.symm));refine⟨hk.kept s3.2 ?_,(k4 t ht).2⟩;cases hv:(V t).ownBlock with
     |none=>exact .inl rfl
     |some q=>right;intro he;injection he with he;subst he;exact(k4 t ht).2 q hv k1
 . have grow:∀t,t<n->t≠j->Apart v1 (V t):=fun t ht htj=>(k5 j t hj ht (fun e=>htj e.symm)).grow hat (fun g hg=>by have:=((k4 t ht).1.lt g hg).2;omega)
   by_cases hsj:s=j
   . subst hsj;simp only[if_true,if_neg (fun e=>hst e.symm:¬t=s)];exact grow t ht (fun e=>hst e.symm)
   . by_cases htj:t=j
     . subst htj;simp only[if_true,if_neg hsj];exact(grow s hs hsj).symm
     . simp only[if_neg hsj,if_neg htj];exact k5 s t hs ht hst
theorem Parts.row{w:World}{base gp n:Nat}{len:Nat->Nat}{F:Nat->Nat->Nat}{X:Nat->Prop}(h:Parts w base gp n len F X){j:Nat}(hj:j<n):
 ∃ao cap,w.cell? ⟨gp,j,none⟩=some (.slice ao (len j) cap)/\Reads w ao (pI (len j) (F j))/\(ao=none->len j=0/\cap=0):=by
 obtain⟨k1,k2,V,k3,k4,k5⟩:=h;obtain⟨ao,cap,hv,hR,hn,_⟩:=zr (k4 j hj).1;exact⟨ao,cap,by rw[<-hv];exact k3.cell hj,hR,hn⟩
theorem Parts.start{w:World}{base gp n:Nat}{F:Nat->Nat->Nat}(h:Own w base 113 gp n n (fun _=>.slice none 0 0)):Parts w base gp n (fun _=>0) F (fun g=>g=gp):=
 ⟨rfl,fun g hg=>by rw[hg];exact h.lt.2,fun _=>.slice none 0 0,h,fun _ _=>⟨World.ownsRow_nil _ _ _ _,fun g hg=>by cases hg⟩,fun _ _ _ _ _ g hg=>by cases hg⟩
def RowK(w:World)(base b n cap:Nat)(f:Nat->Value):Prop:=
 base<=b/\b<w.heap.size/\n<=cap/\cap<=maxLen/\(∀j,j<n->w.cell? ⟨b,j,none⟩=some (f j))/\∀j,j<cap->(w.cell? ⟨b,j,none⟩).isSome=true/\w.frozen? ⟨b,j,none⟩=false
theorem RowK.below{w w':World}{base b n cap:Nat}{f:Nat->Value}(h:RowK w base b n cap f)(hb:Below w.heap.size w w'):RowK w' base b n cap f:=by
 obtain⟨h1,h2,h3,h4,h5,h6⟩:=h;exact⟨h1,Nat.lt_of_lt_of_le h2 hb.size,h3,h4,fun j hj=>(hb.cell (p:=⟨b,j,none⟩) h2).trans (h5 j hj),fun j hj=>⟨by rw[hb.cell (p:=⟨b,j,none⟩) h2];exact(h6 j hj).1,by rw[hb.frozen (p:=⟨b,j,none⟩) h2];exact(h6 j hj).2⟩⟩
theorem RowK.reads{w:World}{base b n cap:Nat}{f:Nat->Value}(h:RowK w base b n cap f):Reads w (some ⟨b,0,none⟩) (zX n f):=by
 intro j u hu;have hj:j<n:=by have:=(List.getElem?_eq_some_iff.1 hu).1;rwa [zC]at this
 rw[zG f hj]at hu;cases hu;exact⟨b,0,rfl,by rw[Nat.zero_add];exact h.2.2.2.2.1 j hj⟩
theorem RowK.congr{w:World}{base b n cap:Nat}{f f':Nat->Value}(h:RowK w base b n cap f)(hf:∀j,j<n->f j=f' j):RowK w base b n cap f':=
 ⟨h.1,h.2.1,h.2.2.1,h.2.2.2.1,fun j hj=>by rw[<-hf j hj];exact h.2.2.2.2.1 j hj,h.2.2.2.2.2⟩
theorem Vd(s:ByteArray)(cap:Nat):(bytesRow s cap).size=s.size+(cap-s.size):=by
 unfold bytesRow;rw[Array.size_append,Array.size_map,Array.size_replicate];rfl
theorem Xw(w:World)(s:ByteArray)(cap base:Nat)(h1:s.size<=cap)(h2:cap<=maxLen)(hb:base<=w.heap.size):
 RowK (w.alloc (.cells (bytesRow s cap) 5 ((bytesRow s cap).size,(bytesRow s cap).size+1))) base w.heap.size s.size cap (fun j=>.int .u8 (zJ s j:Nat)):=by
 have hsz:(bytesRow s cap).size=cap:=by rw[Vd];omega
 refine⟨hb,by simp,h1,h2,fun j hj=>(kL w s cap j hj).1,fun j hj=>⟨?_,?_⟩⟩
 . rw[World.cell?_alloc_mark,Array.getElem?_eq_getElem (by omega)];rfl
 . rw[World.frozen?_alloc_mark];have:¬(bytesRow s cap).size<=j:=by omega
   simp[this]
theorem zab{w:World}{base g n cap:Nat}{f:Nat->Value}(h:Own w base 5 g n cap f):RowK w base g n cap f:=by
 rcases h.2 with⟨hv,_⟩|⟨g',c,cur,hv,h1,h2,h3,h4,h5,h6⟩
 . cases hv
 . cases hv;have hlt:=h.lt;refine⟨hlt.1,hlt.2,h3,h4,fun j hj=>h.cell hj,fun j hj=>⟨?_,h.frozen j⟩⟩;have hc:w.cell? ⟨g,j,none⟩=cur[j]? :=cell_of_row w g j cur 5 (0,0) h2;rw[hc,Array.getElem?_eq_getElem (by rw[h5];simpa using hj)];rfl
theorem zd3{P:Program}{w:World}{ops:Array Oper}{rest:List Oper}{o:Oper}{a:Act}{Q:Exit->Act->World->Prop}(hgd:o.guard=none)(s x:Operand)(t:TypeId)
 (ho:o.op=.call {callee:=.builtin .append,args:=#[s,x],argTypes:=#[t,t]})
 (hP:P.underlying t=some (.slice 5))(hE:yb P 5 (.int .u8 0) 1 1)
 (base b n cap:Nat)(f:Nat->Value)(hs:a.eval s=.slice (some ⟨b,0,none⟩) n cap)(hown:RowK w base b n cap f)
 (u:Value)(hx:a.eval x=.slice (some ⟨w.heap.size,0,none⟩) 1 1)(h1:u.oneCell'=true)(hf:f n=u)(hn:n<=1000000)(hbase:base<=w.heap.size)
 (h:∀b' cap' w',RowK w' base b' (n+1) cap' f->Below base w w'->wpList P ops Q rest (a.put o.dst (.slice (some ⟨b',0,none⟩) (n+1) cap')) w'):
 wpList P ops Q (o::rest) a (w.alloc (.cells #[u] 5)):=by
 obtain⟨i,hi,hz,hsize,hby,hzs,hsz⟩:=hE;have hb0:Below w.heap.size w (w.alloc (.cells #[u] 5)):=(Below.refl _ _).alloc (Nat.le_refl _) _;have hK:=hown.below hb0;obtain⟨k1,k2,k3,k4,k5,k6⟩:=hK;refine wpList_append_arg (w.alloc (.cells #[u] 5)) hgd s x t ho 5 i (.int .u8 0) 1 1 hP hi hz hsize hby hzs hsz b 0 n cap (zX n f) hs (by rw[zC];omega) (fun j v hv=>?_)
  ⟨w.heap.size,0,none⟩ 1 1 [u] hx rfl (fun j v hv=>?_) (by intro q hq;simp at hq;subst hq;exact h1) (fun hr j hj=>?_) (by unfold maxLen;omega) (by omega) (fun hr=>?_) (fun hr v' w' hown' hgr=>?_)
 . have hj:j<n:=by have:=(List.getElem?_eq_some_iff.1 hv).1;rwa [zC]at this
   rw[zG f hj]at hv;cases hv;rw[Nat.zero_add];exact k5 j hj
 . have hr:=yK w #[u] 5 j v (by simpa using hv);obtain⟨bb,oo,ha,hc⟩:=hr;cases ha;rw[Addr.add_lit];exact hc
 . have hj0:j=0:=by simpa using hj
   subst hj0;have:=k6 n (by omega);simpa using this
 . have e:(w.alloc (.cells #[u] 5)).setCells b (0+n*1) [u]=(w.alloc (.cells #[u] 5)).setCell ⟨b,n,none⟩ u:=by
    rw[Nat.zero_add,Nat.mul_one];rfl
   rw[e];refine h b cap _ ⟨k1,by simpa using k2,hr,k4,fun j hj=>?_,fun j hj=>?_⟩ (zk ((Below.refl _ _).alloc hbase _) k1 _)
   . by_cases hjn:j=n
     . subst hjn;rw[hf];exact World.cell?_setCell_same' _ _ _ (k6 j (by omega)).1
     . rw[World.cell?_setCell_other _ _ _ _ (by intro e;injection e with e1 e2;omega)];exact k5 j (by omega)
   . by_cases hjn:j=n
     . subst hjn;exact⟨by rw[World.cell?_setCell_same' _ _ _ (k6 j hj).1];rfl,by rw[World.frozen?_setCell];exact(k6 j hj).2⟩
     . exact⟨by rw[World.cell?_setCell_other _ _ _ _ (by intro e;injection e with e1 e2;omega)];exact(k6 j hj).1,by rw[World.frozen?_setCell];exact(k6 j hj).2⟩
 . obtain⟨g',c',rfl⟩:=yR hown' (by simp);have hO:Own w' base 5 g' (n+1) c' f:=by
    have:=qm hown' (base':=base) (by rw[World.size_alloc];omega);show World.ownsRow _ _ _ _ _ _ _;rw[kF,hf];exact this
   exact h g' c' w' (zab hO) (((Below.refl base w).alloc hbase _).grown hgr (by rw[World.size_alloc];omega) (fun k hk=>by cases hk))
attribute [local go_sem ↓] Go.wp_at_zero Go.wp_at_succ
def kw(xs ys:Nat->GF)(n:Nat)(i:Int)(j:Nat):GF:=if i<(j:Int) then dd xs ys (min n j) j else dd xs ys (min (n-1) j) j
def VL(xs ys:Nat->GF)(k:Nat)(w:World)(e:Ending)(w':World):Prop:=
 ∃g cap,e=.returned (.slice (some ⟨g,0,none⟩) k cap)/\Own w' w.heap.size 5 g k cap (gfV fun j=>dd xs ys j j)/\Below w.heap.size w w'
theorem zcu(xs ys:Nat->GF)(k:Nat)(ao bo:Option Addr)(cap cap2:Nat)(w:World)(hk1:1<=k)(hk:k<=256)(hx:Hid (Reads w ao (zX k (gfV xs))))(hy:Hid (Reads w bo (zX k (gfV ys)))):
 Calls Tryz.prog 140 #[.slice ao k cap,.slice bo k cap2] w (VL xs ys k w):=by
 obtain⟨b2,o2,rfl,_⟩:=hy.out 0 _ (zG (gfV ys) (by omega));go_enter Tryz.func140,Tryz.ntmps140
 go_wp2_with fail
 refine(zdo k (zX k (gfV ys)) (some ⟨b2,o2,none⟩) cap2 w.heap.size w (by omega) (zC _ _) (fun h=>by cases h) hy.out (zd8 (fun j=>rfl)) (Nat.le_refl _)).mono ?_;rintro e w1 ⟨v,rfl,hown,hb1⟩;obtain⟨g,cp,rfl⟩:=yR hown (by
  intro h;have:=zC k (gfV ys);rw[h]at this;simp at this;omega)
 have hO1:Hid (Own w1 w.heap.size 5 g k cp (gfV (kw xs ys 0 ((k:Int)-1)))):=Own.congr (f:=gfV ys) hown fun j hj=>by
  unfold gfV kw;rw[if_neg (by omega)];simp[dd]
 have HB1:=zH hb1;clear hown hb1;go_wp2_with fail
 go_loopw [6] (fun vn wr=>∃n:Nat,vn=.int .i64 n/\1<=n/\n<=k/\Hid (Own wr w.heap.size 5 g k cp (gfV (kw xs ys (n-1) ((n:Int)-2))))/\Hid (Below w.heap.size w wr)) (fun vn _=>k-(intOf vn).toNat)
 case atStart=>exact⟨1,rfl,by omega,by omega,hO1.out.congr fun j hj=>by
  unfold gfV kw;rw[if_neg (by omega),if_pos (by omega)],HB1⟩
 case round=>
  obtain⟨n,rfl,hn1,hnk,hO,hb⟩:=hrel;by_cases hn2:n<k
  . have hO2:Hid (Own wr w.heap.size 5 g k cp (gfV (kw xs ys n ((k:Int)-1)))):=hO.out.congr fun j hj=>by
     unfold gfV kw;rw[if_neg (show¬(k:Int)-1<(j:Int) by omega)]
     split
     . rfl
     . rw[show min (n-1) j=j by omega,show min (n-1-1) j=j by omega]
    go_wp2_with fail
    go_loopw [7] (fun vi wi=>∃i:Int,vi=.int .i64 i/\(n:Int)-1<=i/\i<=(k:Int)-1/\Hid (Own wi w.heap.size 5 g k cp (gfV (kw xs ys n i)))/\Hid (Below w.heap.size w wi)) (fun vi _=>(intOf vi+1).toNat)
    case atStart=>exact⟨(k:Int)-1,rfl,by omega,by omega,hO2,hb⟩
    case round=>
     obtain⟨i,rfl,hi1,hi2,hO3,hb3⟩:=hrel;by_cases hin:(n:Int)<=i
     . obtain⟨I,rfl⟩:=Int.eq_ofNat_of_zero_le (show 0<=i by omega);obtain⟨J,hJ⟩:∃J,I-1=J:=⟨_,rfl⟩
       obtain⟨T,hT⟩:∃T,I-n=T:=⟨_,rfl⟩
       have hIk:I<k:=by omega
       have c1:=hO3.out.cell hIk;have c2:=hO3.out.cell (show J<k by omega);obtain⟨b3,o3,rfl,c3⟩:=(hx.out.below hb3.out) I _ (zG (gfV xs) hIk);obtain⟨b4,o4,ha4,c4⟩:=(hx.out.below hb3.out) T _ (zG (gfV xs) (by omega));injection ha4 with ha4
       injection ha4 with hb4 ho4
       subst hb4 ho4;have f1:=hO3.out.frozen I;unfold gfV at c1 c2 c3 c4;have s1:kw xs ys n (I:Int) I=dd xs ys (n-1) I:=by unfold kw;rw[if_neg (by omega),show min (n-1) I=n-1 by omega]
       have s2:kw xs ys n (I:Int) J=dd xs ys (n-1) J:=by unfold kw;rw[if_neg (by omega),show min (n-1) J=n-1 by omega]
       rw[s1]at c1;rw[s2]at c2;obtain⟨a,ha⟩:∃a,(dd xs ys (n-1) I).val=a:=⟨_,rfl⟩
       obtain⟨b,hbb⟩:∃b,(dd xs ys (n-1) J).val=b:=⟨_,rfl⟩
       obtain⟨p,hp⟩:∃p,(xs I).val=p:=⟨_,rfl⟩
       obtain⟨q,hq⟩:∃q,(xs T).val=q:=⟨_,rfl⟩
       rw[ha]at c1;rw[hbb]at c2;rw[hp]at c3;rw[hq]at c4;have a1:a<256:=by rw[<-ha];exact GF.lt _
       have b1:b<256:=by rw[<-hbb];exact GF.lt _
       have p1:p<256:=by rw[<-hp];exact GF.lt _
       have q1:q<256:=by rw[<-hq];exact GF.lt _
       obtain⟨ab,hab⟩:∃ab:Nat,a ^^^ b=ab:=⟨_,rfl⟩
       obtain⟨pq,hpq⟩:∃pq:Nat,p ^^^ q=pq:=⟨_,rfl⟩
       have ab1:ab<256:=by rw[<-hab];exact qu a1 b1
       have pq1:pq<256:=by rw[<-hpq];exact qu p1 q1
       have e1:bits .xor .u8 (a:Int) (b:Int)=(ab:Int):=by rw[u8_xor_nat a b a1 b1,hab]
       have e2:bits .xor .u8 (p:Int) (q:Int)=(pq:Int):=by rw[u8_xor_nat p q p1 q1,hpq]
       obtain⟨iv,hiv⟩:∃iv,jX pq=iv:=⟨_,rfl⟩
       have iv1:iv<256:=by rw[<-hiv];exact Kj pq1
       obtain⟨r,hr⟩:∃r,zI ab iv=r:=⟨_,rfl⟩
       have hnew:Hid (r=(dd xs ys n I).val):=by
        show _=_;obtain⟨m,rfl⟩:∃m,n=m+1:=⟨n-1,by omega⟩
        show _=((dd xs ys m I+ -dd xs ys m (I-1))*(xs I+ -xs (I-(m+1)))⁻¹).val;rw[GF.mul_val,GF.inv_val,GF.sub_val,GF.sub_val,hJ,hT,hp,hq,hpq,hiv];rw[show m+1-1=m by omega]at ha hbb;rw[ha,hbb,hab,hr]
       have C1:=zH (zdq pq · pq1);have C2:=zH (pv ab iv · ab1 iv1);rw[hiv]at C1;rw[hr]at C2;have st:=hO3.out.store I (.int .u8 (r:Int));have hO4:=zH (st.1.congr (f':=gfV (kw xs ys n (J:Int))) fun j _=>by
        unfold gfV;by_cases hj:j=I
        . subst hj;rw[if_pos rfl,hnew.out];unfold kw;rw[if_pos (by omega),show min n j=n by omega]
        . rw[if_neg hj];unfold kw;by_cases h5:(I:Int)<(j:Int)
          . rw[if_pos h5,if_pos (by omega)]
          . rw[if_neg h5,if_neg (by omega)])
       have hb4:=zH (hO3.out.belowStore hb3.out (Nat.le_refl _) I (.int .u8 (r:Int)));have w1:IntKind.i64.wrap ((I:Int)-1)=(J:Int):=by rw[show(I:Int)-1=(J:Int) by omega];exact IntWalk.i64_in _ (by omega)
       have w2:IntKind.i64.wrap ((I:Int)-(n:Int))=(T:Int):=by rw[show(I:Int)-(n:Int)=(T:Int) by omega];exact IntWalk.i64_in _ (by omega)
       have i0:(0:Int)<=I:=by omega
       have i1:(I:Int)<k:=by omega
       have j0:(0:Int)<=J:=by omega
       have j1:(J:Int)<k:=by omega
       have t0:(0:Int)<=T:=by omega
       have t1:(T:Int)<k:=by omega
       have jI1:(I:Int)<=(J:Int)+1:=by omega
       have jI2:(J:Int)+1<=(I:Int):=by omega
       clear st s1 s2 ha hbb hp hq hab hpq hiv hr hJ hT;go_wp2_with fail
       go_region_law (first|(go_simp;go_at_call 162;refine(C1.out _).mono ?_;rintro e w' ⟨rfl,m1,rfl⟩)|(go_simp;go_at_call 161;refine(C2.out _).mono ?_;rintro e w' ⟨rfl,m2,rfl⟩))
       all_goals
        go_wp2_with fail
        go_roundw
        case rel=>exact⟨(J:Int),by first|rfl|go_num,by omega,by omega,by exact hO4.out,⟨hb4.out.os,hb4.out.tape,hb4.out.output,hb4.out.size,hb4.out.block⟩⟩
        case measure=>simp[intOf];omega
     . have hO4:=zH (hO3.out.congr (f':=gfV (kw xs ys (n+1-1) (((n+1:Nat):Int)-2))) fun j _=>by
        have hin2:i=(n:Int)-1:=by omega
        unfold gfV;rw[show n+1-1=n by omega,show((n+1:Nat):Int)-2=i by omega])
       go_wp2_with fail
       go_roundw
       case rel=>exact⟨n+1,by go_num,by omega,by omega,hO4,hb3⟩
       case measure=>simp[intOf];omega
  . have hfin:Hid (VL xs ys k w (.returned (.slice (some ⟨g,0,none⟩) k cp)) wr):=⟨g,cp,rfl,hO.out.congr fun j hj=>by
     have hnk2:n=k:=by omega
     unfold gfV kw
     split
     . rw[show min (n-1) j=j by omega]
     . rw[show min (n-1-1) j=j by omega],hb.out⟩
    go_wp2_with fail
    go_ret
    exact hfin.out
end Go.Proofs.YtmgfbmkfomebcaaGreatDoor
namespace Go.Proofs.YtmgfbmkfomebcaaGreatDoor
open Go.RowKit
def Q6(xs ys:Nat->GF)(k n:Nat)(w:World)(e:Ending)(w':World):Prop:=
 ∃v,e=.returned v/\w'.ownsRow w.heap.size 5 1 v n (zX n (gfV fun j=>lag xs ys k (gf j)))/\Below w.heap.size w w'
theorem zeB(xs ys:Nat->GF)(k:Nat)(hk:1<=k)(hd:∀i j,i<k->j<k->i≠j->xs i≠xs j)(x:GF):QW xs (fun j=>dd xs ys j j) x 0 k=lag xs ys k x:=by
 obtain⟨n,rfl⟩:∃n,k=n+1:=⟨k-1,by omega⟩
 rw[<-zdf zbY,zde zbY xs ys n hd]
theorem VC(xs ys:Nat->GF)(k n:Nat)(ao bo:Option Addr)(cap cap2:Nat)(w:World)(hk1:1<=k)(hk:k<=256)(hn:n<=256)(hdist:Hid (∀i j,i<k->j<k->i≠j->xs i≠xs j))(hx:Hid (Reads w ao (zX k (gfV xs))))(hy:Hid (Reads w bo (zX k (gfV ys)))):
 Calls Tryz.prog 110 #[.slice ao k cap,.slice bo k cap2,.int .i64 n] w (Q6 xs ys k n w):=by
 go_enter Tryz.func110,Tryz.ntmps110
 go_wp2_with fail
 refine(zcu xs ys k ao bo cap cap2 w hk1 hk hx hy).mono ?_;rintro e w1 ⟨g,cp,rfl,hO,hb1⟩;have HO:=zH hO;have HB1:=zH hb1;clear hO hb1;go_wp2_with fail
 go_loopw [8,14] (fun vo vx wr=>∃x:Nat,vx=.int .i64 x/\x<=n/\Hid (wr.ownsRow w.heap.size 5 1 vo x (zX x (gfV fun j=>lag xs ys k (gf j))))/\Hid (Own wr w.heap.size 5 g k cp (gfV fun j=>dd xs ys j j))/\Hid (∀r,vo.ownBlock=some r->r≠g)/\Hid (Below w.heap.size w wr)) (fun _ vx _=>n-(intOf vx).toNat)
 case atStart=>exact⟨0,rfl,by omega,World.ownsRow_nil _ _ _ _,HO,fun r h=>(by cases h),HB1⟩
 case round=>
  obtain⟨x,rfl,hxn,hrow,hO,hap,hb⟩:=hrel;by_cases hx1:x<n
  . have hx2:x<256:=by omega
    have e1:=wrap_u8 x hx2;obtain⟨y,hy2⟩:∃y,(QW xs (fun j=>dd xs ys j j) (gf x) 0 k).val=y:=⟨_,rfl⟩
    have C:=zH (fun W hx hd=>Jx xs (fun j=>dd xs ys j j) x k ao (some ⟨g,0,none⟩) cap cp W hx2 hk hx hd);rw[hy2]at C;have hv:Hid (Value.int .u8 (y:Int)=gfV (fun j=>lag xs ys k (gf j)) x):=by
     show _=_;unfold gfV;rw[<-hy2,zeB xs ys k hk1 hdist.out]
    have hX:=zH (hx.out.below hb.out);have hRO:=zH hO.out.reads;clear hy2;go_wp2_with fail
    refine(C.out _ hX.out hRO).mono ?_;rintro e w' ⟨rfl,q,rfl⟩;have hrow2:=zH (zi hrow.out (yc wr.heap.size wr q));have hO2:=zH (hO.out.drewN q);have hb2:=zH (zg hb.out q);obtain⟨wq,hwq⟩:∃wq,wr.drewN q=wq:=⟨_,rfl⟩
    rw[hwq]at hrow2 hO2 hb2 ⊢;clear hwq;go_wp2_with (at_builtin;go_must (refine qR rfl (.tmp 17) (.tmp 23) _ rfl w.heap.size 5 _ 1 1 Tryz.underlying113 QX u8 x (zX x (gfV fun j=>lag xs ys k (gf j))) (by rfl) hrow2.out [.int .u8 (y:Int)] (by rfl) rfl (by intro u hu;simp at hu;subst hu;rfl) (by unfold maxLen;omega) (by omega) hb2.out.size ?_);intro v2 w2 hown2 hgr2 hb3 hat2)
    have hrow3:Hid (w2.ownsRow w.heap.size 5 1 v2 (x+1) (zX (x+1) (gfV fun j=>lag xs ys k (gf j)))):=by
     show World.ownsRow _ _ _ _ _ _ _;rw[kF,<-hv.out];exact hown2
    have hO3:Hid (Own w2 w.heap.size 5 g k cp (gfV fun j=>dd xs ys j j)):=World.ownsRow.kept (World.ownsRow.alloc hO2.out _) hgr2 (by
     right;intro h;exact hap.out g h.symm rfl)
    have hap3:Hid (∀r,v2.ownBlock=some r->r≠g):=by
     intro r hr;rcases hat2 with h|h
     . exact hap.out r (by rw[<-h];exact hr)
     . rw[h]at hr;injection hr with hr;have:=hO2.out.lt;omega
    have hb4:=zH (hb2.out.trans hb3);clear hown2 hgr2 hat2 hb3
    go_roundw
    case rel=>exact⟨x+1,by go_num,by omega,hrow3,hO3,hap3,hb4⟩
    case measure=>simp[intOf];omega
  . have hfin:Hid (Q6 xs ys k n w (.returned u8) wr):=by
     have:x=n:=by omega
     exact⟨u8,rfl,by rw[<-this];exact hrow.out,hb.out⟩
    go_wp2_with fail
    go_ret
    exact hfin.out
theorem zbH:yb Tryz.prog 3 (.int .i64 0) 1 8:=yf (by kernel_rfl) rfl (by omega)
def KV(m n:Nat)(k:Int):Int:=if m<n then 2 else if k<1\/(n:Int)<k then 1 else 0
theorem zbb(n:Nat)(k:Int)(ao:Option Addr)(cap:Nat)(w:World):
 Calls Tryz.prog 179 #[.slice ao n cap,.int .i64 k] w fun e w'=>e=.returned (.int .i64 (KV 20 n k))/\w=w':=by
 unfold KV;by_cases h:20<n
 . have d:decide ((20:Int)<n)=true:=by simp;omega
   rw[if_pos h];go_enter Tryz.func179,Tryz.ntmps179
   go_wp2_with fail
   go_ret
   exact⟨rfl,rfl⟩
 . have d:decide ((20:Int)<n)=false:=by simp;omega
   rw[if_neg h];by_cases h1:k<1
   . have d1:decide (k<1)=true:=decide_eq_true h1;rw[if_pos (.inl h1)];go_enter Tryz.func179,Tryz.ntmps179
     go_wp2_with fail
     go_ret
     exact⟨rfl,rfl⟩
   . have d1:decide (k<1)=false:=decide_eq_false h1;by_cases h2:(n:Int)<k
     . have d2:decide ((n:Int)<k)=true:=decide_eq_true h2;rw[if_pos (.inr h2)];go_enter Tryz.func179,Tryz.ntmps179
       go_wp2_with fail
       go_ret
       exact⟨rfl,rfl⟩
     . have d2:decide ((n:Int)<k)=false:=decide_eq_false h2;rw[if_neg (by omega)];go_enter Tryz.func179,Tryz.ntmps179
       go_wp2_with fail
       go_ret
       exact⟨rfl,rfl⟩
def zfL(n:Nat)(N:Int):Int:=if n<1\/20<n then 2 else if N<n\/20<N then 1 else 0
def zfk(ys:Nat->GF)(k n:Nat)(w:World)(e:Ending)(w':World):Prop:=
 ∃g cap,e=.returned (.tuple #[.slice (some ⟨g,0,none⟩) n cap,.int .i64 0])/\Own w' w.heap.size 5 g n cap (gfV fun j=>lag gf ys k (gf j))/\Below w.heap.size w w'
theorem zd9(ys:Nat->GF)(n N:Nat)(ao:Option Addr)(cap:Nat)(w:World)(h1:1<=n)(h2:n<=N)(h3:N<=20)(hy:Hid (Reads w ao (zX n (gfV ys)))):
 Calls Tryz.prog 154 #[.slice ao n cap,.int .i64 N] w (zfk ys n N w):=by
 have d1:decide ((n:Int)<1)=false:=by simp;omega
 have d2:decide ((20:Int)<n)=false:=by simp;omega
 have d3:decide ((N:Int)<n)=false:=by simp;omega
 have d4:decide ((20:Int)<N)=false:=by simp;omega
 have d5:decide (N<n)=false:=by simp;omega
 go_enter Tryz.func154,Tryz.ntmps154
 go_wp2_with fail
 go_loopw [6,7,28] (fun vo _ vx wr=>∃x:Nat,vx=.int .i64 x/\x<=n/\Hid (wr.ownsRow w.heap.size 3 1 vo x (zX x (giV gf)))/\Hid (Below w.heap.size w wr)) (fun _ _ vx _=>n-(intOf vx).toNat)
 case atStart=>exact⟨0,rfl,by omega,World.ownsRow_nil _ _ _ _,Below.refl _ _⟩
 case round=>
  obtain⟨x,rfl,hxn,hrow,hb⟩:=hrel;by_cases hx1:x<n
  . have hv:Hid (Value.int .i64 (x:Int)=giV gf x):=by
     show _=_;unfold giV;rw[ko (by omega)]
    go_wp2_with (at_builtin;go_must (refine yr rfl (.tmp 31) (.tmp 33) _ rfl w.heap.size 3 _ 1 8 Tryz.underlying62 zbH u6 x (zX x (giV gf)) (by rfl) hrow.out [.int .i64 (x:Int)] (by rfl) rfl (by intro u hu;simp at hu;subst hu;rfl) (by unfold maxLen;omega) (by omega) hb.out.size ?_);intro v2 w2 hown2 hgr2 hb3)
    have hrow3:Hid (w2.ownsRow w.heap.size 3 1 v2 (x+1) (zX (x+1) (giV gf))):=by
     show World.ownsRow _ _ _ _ _ _ _;rw[kF,<-hv.out];exact hown2
    have hb4:=zH (hb.out.trans hb3);clear hown2 hgr2 hb3
    go_roundw
    case rel=>exact⟨x+1,by go_num,by omega,hrow3,hb4⟩
    case measure=>simp[intOf];omega
  . have hx2:x=n:=by omega
    obtain⟨ao2,cp2,hv2,hR2,hn2,hm2⟩:=zr hrow.out;rw[hx2]at hR2 hv2;subst hv2;have HR:=zH hR2;have HY:=zH (hy.out.below hb.out);clear hR2 hn2 hm2 hx2;go_wp2_with fail
    refine(J7 gf ys n N ao2 ao cp2 cap wr (by omega) (by omega) HR HY).mono ?_;rintro e w' ⟨g,cp3,rfl,hO,hb3⟩;have HO:Hid (Own w' w.heap.size 5 g N cp3 (gfV fun j=>lag gf ys n (gf j))):=by
     have:=qm hO hb.out.size;exact this
    have HB:=zH (hb.out.trans (Below.mono hb3 hb.out.size));clear hO hb3;go_wp2_with fail
    go_ret2
    exact⟨g,cp3,rfl,HO.out,HB.out⟩
end Go.Proofs.YtmgfbmkfomebcaaGreatDoor
