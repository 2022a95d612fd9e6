/- The store in memory: its block, its nodes, what they keep. -/
import Derived.Test.YtmgfbmkfomebcaaGreatDoorDkM12
import Derived.Test.YtmgfbmkfomebcaaGreatDoorDkM8
import Derived.Test.YtmgfbmkfomebcaaGreatDoorDkM11
import Derived.Test.YtmgfbmkfomebcaaGreatDoorDkM10
import Derived.Deep.RegionLaw
import Derived.Test.YtmgfbmkfomebcaaGreatDoorDkM2
set_option linter.unusedVariables false
set_option linter.unusedSimpArgs false
set_option maxRecDepth 100000
set_option maxHeartbeats 8000000
namespace Go.Proofs.YtmgfbmkfomebcaaGreatDoor
open Go.RowKit
theorem Xk:yb Tryz.prog 106 (.agg #[.int .i64 0,.int .i64 0,.string ByteArray.empty]) 3 32:=yf (by kernel_rfl) rfl (by omega)
theorem zdM:yb Tryz.prog 187 (.agg #[.bool false,.slice none 0 0,.slice none 0 0,.slice none 0 0]) 4 80:=yf (by kernel_rfl) rfl (by omega)
theorem zcr:yb Tryz.prog 68 (.agg #[.int .i64 0,.int .i64 0]) 2 16:=yf (by kernel_rfl) (by kernel_rfl) (by omega)
def kpC(x:Kp):List Value:=[.int .i64 (x.1:Int),.int .i64 0,.string x.2]
def zw(l:List Kp):List Value:=l.flatMap kpC
theorem ZI(l:List Kp):(zw l).length=l.length*3:=by
 unfold zw;induction l with
 |nil=>rfl
 |cons x t ih=>rw[List.flatMap_cons,List.length_append,ih];simp[kpC];omega
theorem kB(l:List Kp)(x:Kp):zw (l++[x])=zw l++kpC x:=by simp[zw]
theorem JP{l:List Kp}{j:Nat}(h:j<l.length):(zw l)[j*3]?=some (.int .i64 ((l[j]).1:Int))/\(zw l)[j*3+1]?=some (.int .i64 0)/\(zw l)[j*3+2]?=some (.string (l[j]).2):=by
 induction l generalizing j with
 |nil=>simp at h
 |cons x t ih=>
  cases j with
  |zero=>exact⟨rfl,rfl,rfl⟩
  |succ j=>
   have hj:j<t.length:=by simpa using h
   obtain⟨h1,h2,h3⟩:=ih hj;have e:zw (x::t)=kpC x++zw t:=by simp[zw]
   have h4:(kpC x).length=3:=rfl;rw[e];refine⟨?_,?_,?_⟩
   . rw[List.getElem?_append_right (by rw[h4];omega),h4,show(j+1)*3-3=j*3 by omega,h1];rfl
   . rw[List.getElem?_append_right (by rw[h4];omega),h4,show(j+1)*3+1-3=j*3+1 by omega,h2]
   . rw[List.getElem?_append_right (by rw[h4];omega),h4,show(j+1)*3+2-3=j*3+2 by omega,h3];rfl
def jc(dn:Nat->Bool)(V:Nat->Nat->Value)(t:Nat):Value:=if t%4=0 then .bool (dn (t / 4)) else V (t / 4) (t%4-1)
theorem zdN(dn:Nat->Bool)(V:Nat->Nat->Value)(i:Nat):jc dn V (i*4)=.bool (dn i):=by
 unfold jc;rw[if_pos (by omega),show i*4 / 4=i by omega]
theorem zdO(dn:Nat->Bool)(V:Nat->Nat->Value)(i key:Nat)(h:key<3):jc dn V (i*4+1+key)=V i key:=by
 unfold jc;rw[if_neg (by omega),show(i*4+1+key) / 4=i by omega,show(i*4+1+key)%4-1=key by omega]
def zaV(V:Nat->Nat->Value)(i key:Nat)(v:Value):Nat->Nat->Value:=fun i' key'=>if i'=i/\key'=key then v else V i' key'
theorem vE(V:Nat->Nat->Value)(i key:Nat)(v:Value):zaV V i key v i key=v:=if_pos ⟨rfl,rfl⟩
theorem qs(V:Nat->Nat->Value){i key i' key':Nat}(v:Value)(h:i'≠i\/key'≠key):zaV V i key v i' key'=V i' key':=if_neg (by omega)
theorem VK(dn:Nat->Bool)(V:Nat->Nat->Value)(i key:Nat)(v:Value)(hk:key<3)(t:Nat):(if t=i*4+1+key then v else jc dn V t)=jc dn (zaV V i key v) t:=by
 unfold jc;by_cases h:t=i*4+1+key
 . rw[if_pos h,if_neg (by omega),show t / 4=i by omega,show t%4-1=key by omega,vE]
 . rw[if_neg h];by_cases h4:t%4=0
   . rw[if_pos h4,if_pos h4]
   . rw[if_neg h4,if_neg h4,qs _ _ (by omega)]
def stC(n k wr r nb m:Nat):Array Value:=#[.int .i64 (n:Int),.int .i64 (k:Int),.int .i64 (wr:Int),.int .i64 (r:Int),.slice (some ⟨nb,0,none⟩) n n,.int .i64 (m:Int)]
structure Shf (w:World) (base:Nat) (Av:Nat->Prop) (n k wr r b nb:Nat) (V:Nat->Nat->Value) (st:St):Prop where
 hb:base<=b
 hst:w.heap[b]?=some (.cells (stC n k wr r nb st.wr) 49 (0,0))
 nodes:Own w base 187 nb (n*4) (n*4) (jc st.dn V)
 row:∀i key,i<n->key<3->w.ownsRow base 106 3 (V i key) (st.kp i key).length (zw (st.kp i key))
 ap:∀i key j key',i<n->key<3->j<n->key'<3->(i≠j\/key≠key')->Apart (V i key) (V j key')
 vb:∀i key,i<n->key<3->(V i key).ownBlock≠some b/\(V i key).ownBlock≠some nb
 nbb:b≠nb
 av:∀g,Av g->g<w.heap.size/\g≠b/\g≠nb
 avv:∀i key g,i<n->key<3->(V i key).ownBlock=some g->¬Av g
 ok:Okst st
structure Kept (Av:Nat->Prop) (base:Nat) (w w':World):Prop where
 bel:Below base w w'
 blk:∀g,Av g->w'.heap[g]?=w.heap[g]?
theorem Kept.refl(Av:Nat->Prop)(base:Nat)(w:World):Kept Av base w w:=⟨Below.refl _ _,fun _ _=>rfl⟩
theorem Kept.trans{Av:Nat->Prop}{base:Nat}{w w' w'':World}(h:Kept Av base w w')(h2:Kept Av base w' w''):Kept Av base w w'':=
 ⟨h.bel.trans h2.bel,fun g hg=>(h2.blk g hg).trans (h.blk g hg)⟩
theorem Kept.of_below{Av:Nat->Prop}{base:Nat}{w w':World}(hb:Below w.heap.size w w')(hbase:base<=w.heap.size)(h:∀g,Av g->g<w.heap.size):Kept Av base w w':=
 ⟨hb.mono hbase,fun g hg=>hb.block g (h g hg)⟩
theorem Shf.avlt{w:World}{base:Nat}{Av:Nat->Prop}{n k wr r b nb:Nat}{V:Nat->Nat->Value}{st:St}(h:Shf w base Av n k wr r b nb V st):∀g,Av g->g<w.heap.size:=fun g hg=>(h.av g hg).1
theorem Shf.blt{w:World}{base:Nat}{Av:Nat->Prop}{n k wr r b nb:Nat}{V:Nat->Nat->Value}{st:St}(h:Shf w base Av n k wr r b nb V st):b<w.heap.size:=(Array.getElem?_eq_some_iff.1 h.hst).1
theorem Shf.below{w w':World}{base:Nat}{Av:Nat->Prop}{n k wr r b nb:Nat}{V:Nat->Nat->Value}{st:St}(h:Shf w base Av n k wr r b nb V st)(hb:Below w.heap.size w w'):Shf w' base Av n k wr r b nb V st:=
 ⟨h.hb,by rw[hb.block b h.blt];exact h.hst,h.nodes.below hb,fun i key hi hk=>zi (h.row i key hi hk) hb,h.ap,h.vb,h.nbb,fun g hg=>⟨Nat.lt_of_lt_of_le (h.av g hg).1 hb.size,(h.av g hg).2⟩,h.avv,h.ok⟩
theorem Shf.kept{w w':World}{base:Nat}{Av:Nat->Prop}{n k wr r b nb:Nat}{V:Nat->Nat->Value}{st:St}(h:Shf w base Av n k wr r b nb V st)(hb:Below w.heap.size w w'):Kept Av base w w':=
 Kept.of_below hb (Nat.le_trans h.hb (Nat.le_of_lt h.blt)) h.avlt
theorem Shf.cells{w:World}{base:Nat}{Av:Nat->Prop}{n k wr r b nb:Nat}{V:Nat->Nat->Value}{st:St}(h:Shf w base Av n k wr r b nb V st):
 w.cell? ⟨b,0,none⟩=some (.int .i64 (n:Int))/\w.cell? ⟨b,1,none⟩=some (.int .i64 (k:Int))/\w.cell? ⟨b,2,none⟩=some (.int .i64 (wr:Int))/\w.cell? ⟨b,3,none⟩=some (.int .i64 (r:Int))/\
 w.cell? ⟨b,4,none⟩=some (.slice (some ⟨nb,0,none⟩) n n)/\w.cell? ⟨b,5,none⟩=some (.int .i64 (st.wr:Int)):=by
 refine⟨?_,?_,?_,?_,?_,?_⟩<;>(rw[zd h.hst];rfl)
theorem Shf.frozen{w:World}{base:Nat}{Av:Nat->Prop}{n k wr r b nb:Nat}{V:Nat->Nat->Value}{st:St}(h:Shf w base Av n k wr r b nb V st)(j:Nat):w.frozen? ⟨b,j,none⟩=false:=zm h.hst j
theorem Shf.dnc{w:World}{base:Nat}{Av:Nat->Prop}{n k wr r b nb:Nat}{V:Nat->Nat->Value}{st:St}(h:Shf w base Av n k wr r b nb V st){i:Nat}(hi:i<n):w.cell? ⟨nb,i*4,none⟩=some (.bool (st.dn i)):=by
 rw[h.nodes.cell (by omega),zdN]
theorem Shf.kpc{w:World}{base:Nat}{Av:Nat->Prop}{n k wr r b nb:Nat}{V:Nat->Nat->Value}{st:St}(h:Shf w base Av n k wr r b nb V st){i key:Nat}(hi:i<n)(hk:key<3):w.cell? ⟨nb,i*4+1+key,none⟩=some (V i key):=by
 rw[h.nodes.cell (by omega),zdO _ _ _ _ hk]
theorem Shf.put_row{w w1:World}{base:Nat}{Av:Nat->Prop}{n k wr r b nb:Nat}{V:Nat->Nat->Value}{st:St}(h:Shf w base Av n k wr r b nb V st){i key:Nat}(hi:i<n)(hk:key<3)
 {v:Value}{l:List Kp}(hg:w.grownBy w1 (V i key).ownBlock)(hown:w1.ownsRow base 106 3 v l.length (zw l))
 (hat:v.ownBlock=(V i key).ownBlock\/∃g,v.ownBlock=some g/\w.heap.size<=g)(hok:Okst (st.set i key l)):
 Shf (w1.setCell ⟨nb,i*4+1+key,none⟩ v) base Av n k wr r b nb (zaV V i key v) (st.set i key l)/\Kept Av base w (w1.setCell ⟨nb,i*4+1+key,none⟩ v):=by
 have hbl:=h.nodes.lt;have hbb:=h.blt;have hbase:base<=w.heap.size:=Nat.le_trans h.hb (Nat.le_of_lt hbb);have hvi:=h.vb i key hi hk;have hri:=(h.row i key hi hk).lt;have h1:Shf w1 base Av n k wr r b nb V st->True:=fun _=>trivial
 have hN1:Own w1 base 187 nb (n*4) (n*4) (jc st.dn V):=World.ownsRow.kept h.nodes hg (.inr fun e=>hvi.2 e.symm);have hS:=hN1.store (i*4+1+key) v;have hvnb:v.ownBlock≠some nb:=by
  rcases hat with e|⟨g,e,hge⟩
  . rw[e];exact hvi.2
  . rw[e];intro e2;injection e2 with e2;omega
 have hvb:v.ownBlock≠some b:=by
  rcases hat with e|⟨g,e,hge⟩
  . rw[e];exact hvi.1
  . rw[e];intro e2;injection e2 with e2;omega
 have hapv:∀j key',j<n->key'<3->(i≠j\/key≠key')->Apart v (V j key'):=by
  intro j key' hj hk' hne g hg1 hg2;rcases hat with e|⟨g',e,hge⟩
  . exact h.ap i key j key' hi hk hj hk' hne g (by rw[<-e];exact hg1) hg2
  . rw[e]at hg1;injection hg1 with hg1
    have:=((h.row j key' hj hk').lt g hg2).2;omega
 have hstore:(w1.setCell ⟨nb,i*4+1+key,none⟩ v).heap[b]?=some (.cells (stC n k wr r nb st.wr) 49 (0,0)):=by
  rw[zf v (fun e=>h.nbb e.symm)];exact zY hg h.hst (fun e=>hvi.1 e.symm)
 have hsz:w.heap.size<=(w1.setCell ⟨nb,i*4+1+key,none⟩ v).heap.size:=Nat.le_trans hg.size hS.2.size;refine⟨⟨h.hb,hstore,hS.1.congr fun j _=>VK _ _ _ _ _ hk _,?_,?_,?_,h.nbb,fun g hg=>⟨Nat.lt_of_lt_of_le (h.av g hg).1 hsz,(h.av g hg).2⟩,?_,hok⟩,?_⟩
 . intro j key' hj hk';by_cases he:j=i/\key'=key
   . rw[he.1,he.2,vE,St.set_at];exact hown.kept hS.2 (.inr hvnb)
   . rw[qs _ _ (by omega),St.set_far _ _ (by omega)];refine((h.row j key' hj hk').kept hg ?_).kept hS.2 (.inr (h.vb j key' hj hk').2);cases hu:(V j key').ownBlock with
     |none=>exact .inl rfl
     |some g=>exact .inr fun e=>h.ap i key j key' hi hk hj hk' (by omega) g e.symm hu
 . intro j key' j2 key2 hj hk' hj2 hk2 hne;by_cases he:j=i/\key'=key
   . rw[he.1,he.2,vE,qs _ _ (by omega)];exact hapv j2 key2 hj2 hk2 (by omega)
   . rw[qs _ _ (by omega)];by_cases he2:j2=i/\key2=key
     . rw[he2.1,he2.2,vE];exact(hapv j key' hj hk' (by omega)).symm
     . rw[qs _ _ (by omega)];exact h.ap j key' j2 key2 hj hk' hj2 hk2 hne
 . intro j key' hj hk';by_cases he:j=i/\key'=key
   . rw[he.1,he.2,vE];exact⟨hvb,hvnb⟩
   . rw[qs _ _ (by omega)];exact h.vb j key' hj hk'
 . intro j key' g hj hk' hgv hA;by_cases he:j=i/\key'=key
   . rw[he.1,he.2,vE]at hgv;rcases hat with e|⟨g',e,hge⟩
     . rw[e]at hgv;exact h.avv i key g hi hk hgv hA
     . rw[e]at hgv;injection hgv with hgv;have:=(h.av g hA).1;omega
   . rw[qs _ _ (by omega)]at hgv;exact h.avv j key' g hj hk' hgv hA
 . refine⟨zk ((Below.refl base w).grown hg hbase fun g hg=>(hri g hg).1) hbl.1 v,fun g hA=>?_⟩;rw[zf v (fun e=>(h.av g hA).2.2 e.symm)];exact hg.block g (h.av g hA).1 (fun e=>h.avv i key g hi hk e.symm hA)
theorem Shf.put_dn{w:World}{base:Nat}{Av:Nat->Prop}{n k wr r b nb:Nat}{V:Nat->Nat->Value}{st:St}(h:Shf w base Av n k wr r b nb V st){i:Nat}(hi:i<n)(x:Bool):
 Shf (w.setCell ⟨nb,i*4,none⟩ (.bool x)) base Av n k wr r b nb V (st.down i x)/\Kept Av base w (w.setCell ⟨nb,i*4,none⟩ (.bool x)):=by
 have hS:=h.nodes.store (i*4) (.bool x);refine⟨⟨h.hb,?_,hS.1.congr fun j _=>?_,?_,h.ap,h.vb,h.nbb,fun g hg=>⟨Nat.lt_of_lt_of_le (h.av g hg).1 hS.2.size,(h.av g hg).2⟩,h.avv,h.ok.down i x⟩,zk (Below.refl _ _) h.nodes.lt.1 _,fun g hA=>?_⟩
 . rw[zf _ (fun e:nb=b=>h.nbb e.symm)];exact h.hst
 . unfold jc St.down;by_cases hj:j=i*4
   . subst hj;rw[if_pos rfl,if_pos (by omega)];simp
   . rw[if_neg hj];by_cases h4:j%4=0
     . rw[if_pos h4,if_pos h4];show _=Value.bool (if j / 4=i then x else st.dn (j / 4));rw[if_neg (by omega)]
     . rw[if_neg h4,if_neg h4]
 . intro j key hj hk;exact(h.row j key hj hk).kept hS.2 (.inr (h.vb j key hj hk).2)
 . rw[zf _ (fun e=>(h.av g hA).2.2 e.symm)]
theorem Shf.put_wr{w:World}{base:Nat}{Av:Nat->Prop}{n k wr r b nb:Nat}{V:Nat->Nat->Value}{st:St}(h:Shf w base Av n k wr r b nb V st)(hw:st.wr≠1000000):
 Shf (w.setCell ⟨b,5,none⟩ (.int .i64 ((st.wr+1:Nat):Int))) base Av n k wr r b nb V st.up1/\Kept Av base w (w.setCell ⟨b,5,none⟩ (.int .i64 ((st.wr+1:Nat):Int))):=by
 have hg:=zO w b 5 (.int .i64 ((st.wr+1:Nat):Int));refine⟨⟨h.hb,?_,World.ownsRow.kept h.nodes hg (.inr fun e=>by injection e with e;exact h.nbb e.symm),?_,h.ap,h.vb,h.nbb,fun g hg2=>⟨Nat.lt_of_lt_of_le (h.av g hg2).1 hg.size,(h.av g hg2).2⟩,h.avv,h.ok.up1 hw⟩,zk (Below.refl _ _) h.hb _,fun g hA=>?_⟩
 . rw[heap_set _ h.hst];rfl
 . intro j key hj hk;exact(h.row j key hj hk).kept hg (.inr (h.vb j key hj hk).1)
 . rw[zf _ (fun e=>(h.av g hA).2.1 e.symm)]
theorem Shf.reads{w:World}{base:Nat}{Av:Nat->Prop}{n k wr r b nb:Nat}{V:Nat->Nat->Value}{st:St}(h:Shf w base Av n k wr r b nb V st){i key:Nat}(hi:i<n)(hk:key<3):
 ∃ao cap,V i key=.slice ao (st.kp i key).length cap/\Reads w ao (zw (st.kp i key))/\(ao=none->(st.kp i key).length=0/\cap=0):=by
 obtain⟨ao,cap,h1,h2,h3,_⟩:=zr (h.row i key hi hk);exact⟨ao,cap,h1,h2,h3⟩
theorem za9(T m:Nat)(f:Nat->Nat):qB T (m+1) f=qB T m f++[f m]:=by simp[qB,List.range_succ]
def kg(s:ByteArray)(k n:Nat)(w:World)(e:Ending)(w':World):Prop:=
 ∃ao cap,e=.returned (.slice ao n cap)/\Reads w' ao (zX n fun j=>.string (qx s.size (yZ s.size k) (pcF s k j)))/\Below w.heap.size w w'
theorem jf(s:ByteArray)(k n:Nat)(w:World)(hs:s.size<=60)(hk:1<=k)(hkn:k<=n)(hn:n<=10):
 Calls Tryz.prog 77 #[.string s,.int .i64 k,.int .i64 n] w (kg s k n w):=by
 obtain⟨m,hm⟩:∃m,yZ s.size k=m:=⟨_,rfl⟩
 have hmb:m<=60:=by rw[<-hm];exact Nat.le_trans (vG hk) hs
 have hmk:=QM (T:=s.size) hk;rw[hm]at hmk;have HM:=zH hm;have hkm:m*k<=600:=Nat.mul_le_mul hmb (show k<=10 by omega);obtain⟨M,hMM⟩:∃M,m*k=M:=⟨_,rfl⟩
 rw[hMM]at hmk hkm;have HMM:=zH hMM;have mk1:(m:Int)*(k:Int)=(M:Int):=by rw[<-hMM];push_cast;rfl
 have mk2:IntKind.i64.wrap (M:Int)=(M:Int):=IntWalk.i64_in _ (by omega);clear hm hMM;go_enter Tryz.func77,Tryz.ntmps77
 go_wp2_with fail
 go_loop [7] (fun vz=>∃z:Nat,vz=.int .i64 z/\z<=m) (fun vz=>m-(intOf vz).toNat)
 case atStart=>exact⟨0,rfl,by omega⟩
 case round=>
  obtain⟨z,rfl,hz⟩:=hrel;have hiff:=J4 (T:=s.size) (z:=z) hk;rw[HM.out]at hiff;have hzk:z*k<=600:=Nat.mul_le_mul (show z<=60 by omega) (show k<=10 by omega);obtain⟨q,hq⟩:∃q,z*k=q:=⟨_,rfl⟩
  rw[hq]at hiff hzk;have q1:(z:Int)*(k:Int)=(q:Int):=by rw[<-hq];push_cast;rfl
  have q2:IntKind.i64.wrap (q:Int)=(q:Int):=IntWalk.i64_in _ (by omega);have HQ:=zH hq;clear hq;by_cases hzm:z<m
  . have t1:decide ((q:Int)<(s.size:Int))=true:=by simp;exact hiff.1 hzm
    have t1':q<s.size:=hiff.1 hzm;have HIF:=zH hiff;clear hiff;go_wp2_with fail
    go_round
    case rel=>exact⟨z+1,by go_num,by omega⟩
    case measure=>simp[intOf];omega
  . have t1:decide ((q:Int)<(s.size:Int))=false:=by
     have:¬q<s.size:=fun h=>hzm (hiff.2 h)
     simp;omega
    obtain rfl:z=m:=by omega
    have BS:=run_bytes_of_string (P:=Tryz.prog) w 9 113 5 s Tryz.underlying9 Tryz.underlying113 Tryz.underlying5;have gc1:=grownCap_ge w s.size 0 5;have gc2:=grownCap_le_maxLen w s.size 0 5 (by unfold maxLen;omega);obtain⟨gc,hgc⟩:∃gc,grownCap w s.size 0 5=gc:=⟨_,rfl⟩
    rw[hgc]at BS gc1 gc2;obtain⟨gb,hgb⟩:∃gb,w.heap.size=gb:=⟨_,rfl⟩
    have RC:RowK (w.drew.alloc (.cells (bytesRow s gc) 5 ((bytesRow s gc).size,(bytesRow s gc).size+1))) gb gb s.size gc (fun j=>.int .u8 ((if j<s.size then zJ s j else 0:Nat):Int)):=by
     rw[<-hgb];exact(Xw w.drew s gc w.heap.size gc1 gc2 (Nat.le_refl _)).congr fun j hj=>by rw[if_pos hj]
    have B7:Below w.heap.size w (w.drew.alloc (.cells (bytesRow s gc) 5 ((bytesRow s gc).size,(bytesRow s gc).size+1))):=(yc _ _ 1).alloc (Nat.le_refl _) _;obtain⟨W7,hW7⟩:∃W7,w.drew.alloc (.cells (bytesRow s gc) 5 ((bytesRow s gc).size,(bytesRow s gc).size+1))=W7:=⟨_,rfl⟩
    rw[hW7]at BS RC B7;rw[hgb]at BS;have HRC:=zH RC;have HB7:=zH B7;have HGB:=zH hgb;clear RC B7 hW7 hgc hgb hiff q1 q2;go_wp2_with fail
    clear BS;go_loopw [8] (fun v8 wr=>∃z b cap:Nat,v8=.slice (some ⟨b,0,none⟩) z cap/\z<=M/\Hid (RowK wr gb b z cap (fun j=>.int .u8 ((if j<s.size then zJ s j else 0:Nat):Int)))/\s.size<=z/\Hid (Below w.heap.size w wr)) (fun v8 _=>M-(match v8 with|.slice _ z _=>z|_=>0))
    case atStart=>exact⟨s.size,gb,gc,rfl,hmk,HRC,Nat.le_refl _,HB7⟩
    case round=>
     clear HRC HB7;obtain⟨y,b,cap,rfl,hy,HK,hsy,HB⟩:=hrel;obtain⟨wo,rfl⟩:∃wo,wo=wr:=⟨_,rfl⟩
     by_cases hyM:y<M
     . have t2:decide ((y:Int)<(M:Int))=true:=by simp;omega
       have hz0:Hid ((fun j=>Value.int .u8 ((if j<s.size then zJ s j else 0:Nat):Int)) y=.int .u8 0):=zH (by show Value.int .u8 ((if y<s.size then zJ s y else 0:Nat):Int)=_;rw[if_neg (by omega)];rfl);go_wp2_with (first
        |(at_builtin;go_must (refine zd3 rfl (.tmp 33) (.tmp 34) 113 rfl Tryz.underlying113 vO gb b y cap _ (by rfl) HK.out (.int .u8 0) (by rfl) rfl hz0.out (by omega) (by have:=HK.out.2.1;have:=HK.out.1;omega) ?_);intro b5 c5 w5 hk5 hb5;have HK5:=zH hk5;have HB5:=zH (HB.out.trans (by rw[HGB.out];exact hb5));clear hk5 hb5)
        |fail)
       go_roundw
       case rel=>exact⟨y+1,b5,c5,rfl,by omega,HK5,by omega,HB5⟩
       case measure=>simp;omega
     . obtain rfl:y=M:=by omega
       have t2:decide ((y:Int)<(y:Int))=false:=by simp
       obtain⟨bw,hbw⟩:∃bw,wo.heap.size=bw:=⟨_,rfl⟩
       have HBW:=zH hbw;clear hbw;go_wp2_with fail
       go_loopw [9,37] (fun v9 vj wr=>∃j:Nat,vj=.int .i64 j/\j<=k/\Hid (wr.ownsRow bw 5 1 v9 j (zX j (gfV gf)))/\Hid (Below bw wo wr)) (fun _ vj _=>k-(intOf vj).toNat)
       case atStart=>exact⟨0,rfl,by omega,zH (World.ownsRow_nil _ _ _ _),zH (Below.refl _ _)⟩
       case round=>
        obtain⟨j,rfl,hj,hX,hBx⟩:=hrel;obtain⟨wx,rfl⟩:∃wx,wx=wr:=⟨_,rfl⟩
        have hbase:Hid (bw<=wx.heap.size):=zH (by rw[<-HBW.out];exact hBx.out.size);by_cases hjk:j<k
        . have wj:=kR j (by omega);go_wp2_with (first
           |(at_builtin;go_must (refine qR rfl (.tmp 40) (.tmp 43) 113 rfl bw 5 _ 1 1 Tryz.underlying113 vO _ j _ (by rfl) hX.out [.int .u8 (j:Int)] (by rfl) rfl (by intro u hu;simp at hu;subst hu;rfl) (by unfold maxLen;omega) (by omega) hbase.out ?_);intro v5 w5 hown5 hgr5 hb5 hat5;have HX5:Hid (w5.ownsRow bw 5 1 v5 (j+1) (zX (j+1) (gfV gf))):=zH (by rw[kF];unfold gfV;rw[ko (by omega)];exact hown5);have HB5:=zH (hBx.out.trans hb5);clear hown5 hgr5 hb5 hat5)
           |fail)
          go_roundw
          case rel=>exact⟨j+1,by go_num,by omega,HX5,HB5⟩
          case measure=>simp[intOf];omega
        . obtain rfl:j=k:=by omega
          obtain⟨ax,cx,rfl,hRx,_,_⟩:=zr hX.out;have HRX:=zH hRx;have HKX:Hid (RowK wx gb b y cap (fun j=>.int .u8 ((if j<s.size then zJ s j else 0:Nat):Int))):=zH (HK.out.below (by rw[HBW.out];exact hBx.out));have HBX:Hid (Below w.heap.size w wx):=zH (HB.out.trans (hBx.out.mono (by rw[<-HBW.out];exact HB.out.size)));obtain⟨bx,hbx⟩:∃bx,wx.heap.size=bx:=⟨_,rfl⟩
          have HBXS:=zH hbx;have wT:=kR s.size (by omega);clear hRx hX hBx HK HB hbase hbx;go_wp2_with fail
          go_loopw [11,47] (fun vo vi wr=>∃i:Nat,vi=.int .i64 i/\i<=n/\Hid (wr.ownsRow bx 9 1 vo i (zX i fun r=>.string (qx s.size z (pcF s j r))))/\Hid (Below bx wx wr)) (fun _ vi _=>n-(intOf vi).toNat)
          case atStart=>exact⟨0,rfl,by omega,zH (World.ownsRow_nil _ _ _ _),zH (Below.refl _ _)⟩
          case round=>
           obtain⟨i,rfl,hi,hO,hBi⟩:=hrel;obtain⟨wi,rfl⟩:∃wi,wi=wr:=⟨_,rfl⟩
           obtain⟨vo,rfl⟩:∃vo,vo=u11:=⟨_,rfl⟩
           have hBi':Hid (Below wx.heap.size wx wi):=zH (by rw[HBXS.out];exact hBi.out);by_cases hin:i<n
           . obtain⟨bi,hbi⟩:∃bi,wi.heap.size=bi:=⟨_,rfl⟩
             have HBI:=zH hbi;have HBo:Hid (Below bi wi (wi.alloc (.cells #[.int .u8 (s.size:Nat)] 5))):=zH (by rw[<-hbi];exact(Below.refl _ _).alloc (Nat.le_refl _) _);have HBody:Hid ((wi.alloc (.cells #[.int .u8 (s.size:Nat)] 5)).ownsRow bi 5 1 (.slice (some ⟨bi,0,none⟩) 1 1) (0+1) ((qB s.size 0 (pcF s j i)).map fun c=>.int .u8 (c:Nat))):=zH (by rw[<-hbi];exact KT wi wi.heap.size 5 [.int .u8 (s.size:Nat)] (Nat.le_refl _) (by unfold maxLen;simp));go_wp2_with fail
             try rw[hbi]
             clear hbi;go_loopw [13,55] (fun vb va wr=>∃a:Nat,va=.int .i64 a/\a<=z/\Hid (wr.ownsRow bi 5 1 vb (a+1) ((qB s.size a (pcF s j i)).map fun c=>.int .u8 (c:Nat)))/\Hid (Below bi wi wr)) (fun _ va _=>z-(intOf va).toNat)
             case atStart=>exact⟨0,rfl,by omega,HBody,HBo⟩
             case round=>
              clear HBody HBo;obtain⟨a,rfl,ha,hBody,hBa⟩:=hrel;obtain⟨wa,rfl⟩:∃wa,wa=wr:=⟨_,rfl⟩
              obtain⟨vb,rfl⟩:∃vb,vb=u13:=⟨_,rfl⟩
              have hBa':Hid (Below wi.heap.size wi wa):=zH (by rw[HBI.out];exact hBa.out);have HXA:Hid (Below wx.heap.size wx wa):=zH (hBi'.out.trans (hBa'.out.mono hBi'.out.size));by_cases haz:a<z
              . obtain⟨bj,hbj⟩:∃bj,wa.heap.size=bj:=⟨_,rfl⟩
                have HBJ:=zH hbj;clear hbj;go_wp2_with fail
                go_loopw [15,59] (fun vy vt wr=>∃t:Nat,vt=.int .i64 t/\t<=j/\Hid (wr.ownsRow bj 5 1 vy t (pI t (pJ s z a)))/\Hid (Below bj wa wr)) (fun _ vt _=>j-(intOf vt).toNat)
                case atStart=>exact⟨0,rfl,by omega,zH (World.ownsRow_nil _ _ _ _),zH (Below.refl _ _)⟩
                case round=>
                 obtain⟨t,rfl,ht,hY,hBt⟩:=hrel;obtain⟨wt,rfl⟩:∃wt,wt=wr:=⟨_,rfl⟩
                 have hBt':Hid (Below wa.heap.size wa wt):=zH (by rw[HBJ.out];exact hBt.out);have HXT:Hid (Below wx.heap.size wx wt):=zH (HXA.out.trans (hBt'.out.mono HXA.out.size));by_cases htj:t<j
                 . have htz:t*z+a<y:=by
                    have h1:(t+1)*z<=j*z:=Nat.mul_le_mul_right z (by omega);rw[Nat.succ_mul]at h1;have h2:=HMM.out;rw[Nat.mul_comm]at h2;omega
                   obtain⟨q1,hq1⟩:∃q,t*z=q:=⟨_,rfl⟩
                   obtain⟨q2,hq2⟩:∃q,q1+a=q:=⟨_,rfl⟩
                   rw[hq1,hq2]at htz;have e1:(t:Int)*(z:Int)=(q1:Int):=by rw[<-hq1];push_cast;rfl
                   have e2:(q1:Int)+(a:Int)=(q2:Int):=by omega
                   have e3:IntKind.i64.wrap (q1:Int)=(q1:Int):=IntWalk.i64_in _ (by omega);have e4:IntKind.i64.wrap (q2:Int)=(q2:Int):=IntWalk.i64_in _ (by omega);have cw:wt.cell? ⟨b,q2,none⟩=some (.int .u8 (pJ s z a t:Nat)):=by
                    have:=(HKX.out.below HXT.out).2.2.2.2.1 q2 htz;rw[this];unfold pJ;rw[hq1,hq2]
                   obtain⟨c,hc⟩:∃c,pJ s z a t=c:=⟨_,rfl⟩
                   rw[hc]at cw;have HC:=zH hc;have hbase:Hid (bj<=wt.heap.size):=zH (by rw[<-HBJ.out];exact hBt'.out.size);clear hq1 hq2 hc;go_wp2_with (first
                    |(at_builtin;go_must (refine qR rfl (.tmp 62) (.tmp 71) 113 rfl bj 5 _ 1 1 Tryz.underlying113 vO _ t _ (by rfl) hY.out [.int .u8 (c:Int)] (by rfl) rfl (by intro u hu;simp at hu;subst hu;rfl) (by unfold maxLen;omega) (by omega) hbase.out ?_);intro v5 w5 hown5 hgr5 hb5 hat5;have HX5:Hid (w5.ownsRow bj 5 1 v5 (t+1) (pI (t+1) (pJ s z a))):=zH (by rw[Vt,HC.out];exact hown5);have HB5:=zH (hBt.out.trans hb5);clear hown5 hgr5 hb5 hat5)
                    |fail)
                   go_roundw
                   case rel=>exact⟨t+1,by go_num,by omega,HX5,HB5⟩
                   case measure=>simp[intOf];omega
                 . obtain rfl:t=j:=by omega
                   obtain⟨ay,cy,rfl,hRy,_,_⟩:=zr hY.out;have CR:=zH (VC gf (ysP s z a) t (i+1) ax ay cx cy wt hk (by omega) (by omega) (zH (fun p q hp hq hne he=>hne (by
                    have:=congrArg GF.val he
                    rwa [ko (by omega),ko (by omega)]at this))) (zH (HRX.out.below HXT.out)) (zH (by rw[<-zbo];exact hRy)))
                   unfold Q6 at CR;have ei:IntKind.i64.wrap ((i:Int)+1)=(i:Int)+1:=IntWalk.i64_in _ (by omega);rw[show((i+1:Nat):Int)=(i:Int)+1 from by push_cast;rfl]at CR;have hbody2:=zH (zi hBody.out hBt'.out);have HBI2:Hid (Below bi wi wt):=zH (hBa.out.trans (hBt'.out.mono (by rw[<-HBI.out];exact hBa'.out.size)));clear hRy hY hBt;go_wp2_with fail
                   (with_reducible refine CR.out.mono ?_)
                   rintro e w6 ⟨v6,rfl,hO6,hb6⟩;obtain⟨g6,c6,rfl⟩:=yR hO6 (fun h=>by have:=congrArg List.length h;rw[zC]at this;simp at this);have cz:w6.cell? ⟨g6,i,none⟩=some (.int .u8 (pcF s t i a:Nat)):=by
                    have h1:Own w6 wt.heap.size 5 g6 (i+1) c6 (gfV fun j=>lag gf (ysP s z a) t (gf j)):=hO6;rw[h1.cell (show i<i+1 by omega)];unfold gfV pcF;rw[HM.out]
                   obtain⟨c,hc⟩:∃c,pcF s t i a=c:=⟨_,rfl⟩
                   rw[hc]at cz;have HC:=zH hc;have hbody3:=zH (zi hbody2.out hb6);have HBI3:Hid (Below bi wi w6):=zH (HBI2.out.trans (hb6.mono (by rw[<-HBI.out];have:=hBa'.out.size;have:=hBt'.out.size;omega)));have hbase:Hid (bi<=w6.heap.size):=zH (by rw[<-HBI.out];exact HBI3.out.size);have i0:(0:Int)<=(i:Int):=by omega
                   have i1:(i:Int)<(i:Int)+1:=by omega
                   clear hc hO6 hb6 CR hbody2 HBI2;go_wp2_with (first
                    |(at_builtin;go_must (refine qR rfl (.tmp 74) (.tmp 83) 113 rfl bi 5 _ 1 1 Tryz.underlying113 vO _ (a+1) _ (by rfl) hbody3.out [.int .u8 (c:Int)] (by rfl) rfl (by intro u hu;simp at hu;subst hu;rfl) (by unfold maxLen;omega) (by omega) hbase.out ?_);intro v7 w7 hown7 hgr7 hb7 hat7;have HX7:Hid (w7.ownsRow bi 5 1 v7 (a+1+1) ((qB s.size (a+1) (pcF s t i)).map fun c=>.int .u8 (c:Nat))):=zH (by rw[za9,List.map_append,HC.out];exact hown7);have HB7:=zH (HBI3.out.trans hb7);clear hown7 hgr7 hb7 hat7)
                    |fail)
                   go_roundw
                   case rel=>exact⟨a+1,by go_num,by omega,HX7,HB7⟩
                   case measure=>simp[intOf];omega
              . obtain rfl:a=z:=by omega
                obtain⟨gv,cv,rfl⟩:=yR hBody.out (by simp[qB]);have hlt:Hid (∀c∈qB s.size a (pcF s j i),c<256):=zH (by
                 intro c hc;simp only[qB,List.mem_cons,List.mem_map,List.mem_range]at hc;rcases hc with rfl|⟨j,hj,rfl⟩
                 . omega
                 . exact zdt _ _ _ _)
                have KC:Hid (∀W,Reads W (some ⟨gv,0,none⟩) ((qB s.size a (pcF s j i)).map fun c=>.int .u8 (c:Nat))->(convert 113 9 (.slice (some ⟨gv,0,none⟩) (a+1) cv)).run Tryz.prog W=.ok (.string (yi (qB s.size a (pcF s j i)))) W):=zH (fun W h=>by
                 have:=qO (qB s.size a (pcF s j i)) (some ⟨gv,0,none⟩) cv W hlt.out (fun h=>by cases h) h
                 rwa [pG]at this)
                have hRb:=zH (zF hBody.out);obtain⟨B,hB⟩:∃B,yi (qB s.size a (pcF s j i))=B:=⟨_,rfl⟩
                rw[hB]at KC;have hBs:B.size=a+1:=by rw[<-hB,yX,pG]
                have CSum:=zH (fun W=>V4 B W (by omega));obtain⟨cr,hcr⟩:∃c,Zp B=c:=⟨_,rfl⟩
                have hcrb:cr<4294967296:=by rw[<-hcr];exact Yo B
                rw[hcr]at CSum;have CF:=zH (fun W=>J5 cr W hcrb);obtain⟨FS,hFS⟩:∃S,yi (vF cr)=S:=⟨_,rfl⟩
                rw[hFS]at CF;have hfs:FS.size=4:=by rw[<-hFS,yX];rfl
                have hsum:¬(9223372036854775807<a+1+4):=by omega
                have hres:Hid (qx s.size a (pcF s j i)=B++FS):=zH (by unfold qx;rw[hB,hcr,hFS]);have k0:=KC.out wa hRb.out;have k1:=KC.out wa.drew hRb.out;have hO2:=zH (zi hO.out hBa'.out);have HBX2:Hid (Below bx wx wa):=zH (by rw[<-HBXS.out];exact HXA.out);have hm1:Hid (i+1<=maxLen):=zH (by unfold maxLen;omega);have hm2:Hid ((i+1)*16<=140737488355328):=zH (by omega);clear hB hcr hFS hBody;go_wp2_with fail
                go_region_law (first
                 |(go_simp;go_at_call 112;(with_reducible refine(CSum.out _).mono ?_);rintro e w5 ⟨rfl,hb5⟩;have hb5':Below wa.heap.size wa w5:=(zb (Below.refl _ wa)).trans hb5;have k5:=KC.out w5 (hRb.out.below hb5'))
                 |(go_simp;go_at_call 111;(with_reducible refine(CF.out _).mono ?_);rintro e w6 ⟨rfl,hb6⟩;have hb6':Below wa.heap.size wa w6:=hb5'.trans (hb6.mono hb5'.size);have k6:=KC.out w6 (hRb.out.below hb6');have HO6:=zH (zi hO2.out hb6');have HB6:=zH (HBX2.out.trans (hb6'.mono (by rw[<-HBXS.out];exact HXA.out.size))))
                 |(refine V8 ?_ (.tmp 86) (.tmp 94) 22 ?_ bx 9 _ 1 16 Tryz.underlying22 YI vo i _ ?_ w6 HO6.out wx HB6.out (by rw[HBXS.out];exact Nat.le_refl _) ?_ ?_ #[.string (B++FS)] ?_ ?_ rfl ?_ hm1.out hm2.out ?_;(focus rfl);(focus rfl);(focus rfl);(focus (repeat(first|(with_reducible exact Below.refl _ _)|(with_reducible apply zb)|(with_reducible apply zg)|(with_reducible refine Below.alloc ?_ (by simp;try omega) _)|fail)));rotate_left;(focus rfl);(focus (repeat(first|(with_reducible exact zl _ _ _ (by simp;try omega))|(with_reducible apply yu)|(with_reducible apply yO)|(with_reducible apply za)|fail)));(focus (intro u hu;simp at hu;subst hu;rfl));intro v8 w8 hown8 hb8)
                 |fail)
                all_goals
                 have HX8:Hid (w8.ownsRow bx 9 1 v8 (i+1) (zX (i+1) fun r=>.string (qx s.size a (pcF s j r)))):=zH (by rw[kF,hres.out];exact hown8);have HB8:=zH hb8;clear hown8 hb8;go_wp2_with fail
                 go_roundw
                 case rel=>exact⟨i+1,by go_num,by omega,HX8,HB8⟩
                 case measure=>simp[intOf];omega
           . obtain rfl:i=n:=by omega
             obtain⟨ao,co,rfl,hRo,_,_⟩:=zr hO.out;go_wp2_with fail
             go_ret
             exact⟨ao,co,rfl,by rw[HM.out];exact hRo,HBX.out.trans (hBi'.out.mono HBX.out.size)⟩
def jI(s:ByteArray)(k n:Int):Nat:=if qg k n=true then(if 60<s.size then 2 else 0) else 1
def zbz(s:ByteArray)(k n:Int)(w:World)(e:Ending)(w':World):Prop:=e=.returned (.tuple #[.slice none 0 0,.int .i64 (jI s k n:Nat)])/\w'=w
theorem Z5(s:ByteArray)(k n:Int)(w:World)(hs:s.size<=9223372036854775807)(h:jI s k n≠0):
 Calls Tryz.prog 131 #[.string s,.int .i64 k,.int .i64 n] w (zbz s k n w):=by
 have CR:=zH (pi k n w);cases hr:qg k n with
 |false=>
  have hE:jI s k n=1:=by unfold jI;rw[hr];rfl
  rw[hr]at CR;have HE:=zH hE;clear h hr hE;go_enter Tryz.func131,Tryz.ntmps131
  go_wp2_with fail
  (with_reducible refine CR.out.mono ?_)
  rintro e w2 ⟨rfl,rfl⟩;go_wp2_with fail
  go_ret2
  exact⟨by rw[HE.out];rfl,rfl⟩
 |true=>
  have h60:60<s.size:=by
   unfold jI at h;rw[hr,if_pos rfl]at h;by_cases h6:60<s.size
   . exact h6
   . rw[if_neg h6]at h;exact absurd rfl h
  have hE:jI s k n=2:=by unfold jI;rw[hr,if_pos rfl,if_pos h60]
  rw[hr]at CR;have HE:=zH hE;have hT:decide ((60:Int)<s.size)=true:=by simp;omega
  clear h hr hE;go_enter Tryz.func131,Tryz.ntmps131
  go_wp2_with fail
  (with_reducible refine CR.out.mono ?_)
  rintro e w2 ⟨rfl,rfl⟩;go_wp2_with fail
  go_ret2
  exact⟨by rw[HE.out];rfl,rfl⟩
end Go.Proofs.YtmgfbmkfomebcaaGreatDoor
