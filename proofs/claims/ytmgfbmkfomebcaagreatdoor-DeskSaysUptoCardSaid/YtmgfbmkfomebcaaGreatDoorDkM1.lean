/- LAGRANGE's and NEWTON's polynomials are one; the field of 256 elements as a type. Plain algebra. -/
import Derived.Test.YtmgfbmkfomebcaaGreatDoorDkM0
set_option linter.unusedVariables false
set_option linter.unusedSimpArgs false
namespace Go.Proofs.YtmgfbmkfomebcaaGreatDoor
set_option linter.unusedSectionVars false
section
variable {α:Type} [Add α] [Mul α] [Neg α] [Zero α] [One α] [Inv α] (F:Fld α)
include F
omit F in
def kV(xs:Nat->α)(y:α)(i:Nat)(x:α):Nat->α
 |0=>y
 |m+1=>if m=i then kV xs y i x m else kV xs y i x m*((x+ -xs m)*(xs i+ -xs m)⁻¹)
omit F in
def Je(xs ys:Nat->α)(k:Nat)(x:α):Nat->α
 |0=>0
 |i+1=>Je xs ys k x i+kV xs (ys i) i x k
omit F in
def lag(xs ys:Nat->α)(k:Nat)(x:α):α:=Je xs ys k x k
theorem zbV(xs:Nat->α)(y:α)(i:Nat)(m:Nat):PolyF (if i<m then m else m+1) (fun x=>kV xs y i x m):=by
 induction m with
 |zero=>simp only[Nat.not_lt_zero,if_false];exact PolyF.const F y
 |succ m ih=>
  have key:∀{k:Nat},PolyF k (fun x=>kV xs y i x m)->PolyF (k+1) (fun x=>kV xs y i x m*((x+ -xs m)*(xs i+ -xs m)⁻¹)):=by
   intro k h;refine(PolyF.smul F (xs i+ -xs m)⁻¹ (PolyF.lin F (-xs m) h)).ext fun x=>?_
   rw[F.mul_comm,F.mul_comm (x+ -xs m),F.mul_assoc]
  by_cases h:m=i
  . subst h;rw[if_neg (by omega)]at ih;rw[if_pos (by omega)];exact ih.ext fun x=>by simp[kV]
  . have e:∀x,kV xs y i x m*((x+ -xs m)*(xs i+ -xs m)⁻¹)=kV xs y i x (m+1):=fun x=>by simp[kV,h]
    by_cases h2:i<m
    . rw[if_pos h2]at ih;rw[if_pos (by omega)];exact(key ih).ext e
    . rw[if_neg h2]at ih;rw[if_neg (by omega)];exact(key ih).ext e
theorem zaz(xs:Nat->α)(y:α){i j m:Nat}(hij:j≠i)(hj:j<m):kV xs y i (xs j) m=0:=by
 induction m with
 |zero=>omega
 |succ m ih=>
  simp only[kV];by_cases h:m=j
  . subst h;rw[if_neg hij,F.add_neg,F.zero_mul,F.mul_zero]
  . split
    . exact ih (by omega)
    . rw[ih (by omega),F.zero_mul]
theorem zbW(xs:Nat->α)(y:α){i m:Nat}(hd:∀j,j<m->j≠i->xs i≠xs j):kV xs y i (xs i) m=y:=by
 induction m with
 |zero=>rfl
 |succ m ih=>
  have h2:=ih (fun j h1 h2=>hd j (by omega) h2);simp only[kV]
  split
  . exact h2
  . rename_i h;rw[h2,F.mul_inv _ (F.sub_ne_zero (hd m (by omega) h)),F.mul_one]
theorem zbX(xs ys:Nat->α){k m:Nat}(hm:m<=k):PolyF k (fun x=>Je xs ys k x m):=by
 induction m with
 |zero=>exact PolyF.zero F k
 |succ m ih=>
  have h:=zbV F xs (ys m) m k;rw[if_pos (by omega)]at h;exact PolyF.add F (ih (by omega)) h
theorem zeo(xs ys:Nat->α){k m j:Nat}(hm:m<=k)(hj:j<k)(hd:∀i j,i<k->j<k->i≠j->xs i≠xs j):Je xs ys k (xs j) m=if j<m then ys j else 0:=by
 induction m with
 |zero=>rfl
 |succ m ih=>
  simp only[Je];rw[ih (by omega)];by_cases h:j=m
  . subst h;rw[if_neg (by omega),if_pos (by omega),F.zero_add,zbW F xs (ys j) (fun i h1 h2=>hd j i hj h1 (Ne.symm h2))]
  . rw[zaz F xs (ys m) h hj,F.add_zero];by_cases h2:j<m
    . rw[if_pos h2,if_pos (by omega)]
    . rw[if_neg h2,if_neg (by omega)]
theorem zdd(xs ys:Nat->α){k j:Nat}(hj:j<k)(hd:∀i j,i<k->j<k->i≠j->xs i≠xs j):lag xs ys k (xs j)=ys j:=by
 unfold lag;rw[zeo F xs ys (Nat.le_refl k) hj hd,if_pos hj]
theorem Yz(xs ys:Nat->α)(k:Nat):PolyF k (lag xs ys k):=zbX F xs ys (Nat.le_refl k)
theorem zde(xs ys:Nat->α)(n:Nat)(hd:∀i j,i<n+1->j<n+1->i≠j->xs i≠xs j)(x:α):ju xs ys 0 n x=lag xs ys (n+1) x:=by
 refine PolyF.agree F (Lead.poly F (pF F xs ys 0 n)) (Yz F xs ys (n+1)) (rs:=places xs 0 (n+1)) (by rw[jK];omega) (jL fun i j h1 h2=>hd i j (by omega) (by omega) (by omega)) (fun r hr=>?_) x;obtain⟨j,hj,rfl⟩:=Qb.1 hr;rw[zfd F xs ys n 0 (fun i j h1 h2=>hd i j (by omega) (by omega) (by omega)) j (by omega),Nat.zero_add,zdd F xs ys hj hd]
omit F in
def QW(xs d:Nat->α)(x:α):Nat->Nat->α
 |_,0=>0
 |j,c+1=>QW xs d x (j+1) c*(x+ -xs j)+d j
theorem zdf(xs ys:Nat->α)(x:α)(n:Nat):ju xs ys 0 n x=QW xs (fun j=>dd xs ys j j) x 0 (n+1):=by
 have key:∀(c j:Nat),ju xs ys 0 j x+kf (places xs 0 (j+1)) x*QW xs (fun j=>dd xs ys j j) x (j+1) c=ju xs ys 0 (j+c) x:=by
  intro c;induction c with
  |zero=>intro j;simp only[QW,Nat.add_zero];rw[F.mul_zero,F.add_zero]
  |succ c ih=>
   intro j;rw[show j+(c+1)=j+1+c by omega,<-ih (j+1)];simp only[QW,ju];rw[J1 xs 0 (j+1),za4 F,Nat.zero_add,Nat.zero_add,F.mul_add,F.add_assoc]
   congr 1
   rw[F.add_comm,F.mul_comm (dd xs ys (j+1) (j+1))]
   congr 1
   rw[F.mul_assoc,F.mul_comm (x+ -xs (j+1))]
 have h0:=key n 0;rw[show 0+n=n by omega]at h0;rw[<-h0];show _=QW xs (fun j=>dd xs ys j j) x 1 n*(x+ -xs 0)+dd xs ys 0 0;simp only[ju,places];have e:kf (List.map (fun j=>xs (0+j)) (List.range (0+1))) x=x+ -xs 0:=by
  simp only[Nat.zero_add,List.range_one,List.map_cons,List.map_nil,kf];rw[F.mul_one]
 rw[e,F.add_comm,F.mul_comm]
theorem zdg{k:Nat}{f:α->α}(hf:PolyF k f)(xs ys:Nat->α)(hd:∀i j,i<k->j<k->i≠j->xs i≠xs j)(h:∀j,j<k->f (xs j)=ys j)(x:α):lag xs ys k x=f x:=by
 refine PolyF.agree F (Yz F xs ys k) hf (rs:=places xs 0 k) (by rw[jK];omega) (jL fun i j h1 h2=>hd i j (by omega) (by omega) (by omega)) (fun r hr=>?_) x;obtain⟨j,hj,rfl⟩:=Qb.1 hr;rw[Nat.zero_add,zdd F xs ys hj hd,h j hj]
end
structure GF where
 val:Nat
 lt:val<256
theorem GF.ext{a b:GF}(h:a.val=b.val):a=b:=by
 cases a;cases b;simp only at h;subst h;rfl
instance:Add GF:=⟨fun a b=>⟨a.val ^^^ b.val,qu a.lt b.lt⟩⟩
instance:Mul GF:=⟨fun a b=>⟨zI a.val b.val,yL a.lt⟩⟩
instance:Neg GF:=⟨fun a=>a⟩
instance:Zero GF:=⟨⟨0,by omega⟩⟩
instance:One GF:=⟨⟨1,by omega⟩⟩
instance:Inv GF:=⟨fun a=>⟨jX a.val,Kj a.lt⟩⟩
theorem GF.add_val(a b:GF):(a+b).val=a.val ^^^ b.val:=rfl
theorem GF.sub_val(a b:GF):(a+ -b).val=a.val ^^^ b.val:=rfl
theorem GF.mul_val(a b:GF):(a*b).val=zI a.val b.val:=rfl
theorem GF.inv_val(a:GF):(a⁻¹).val=jX a.val:=rfl
theorem GF.zero_val:(0:GF).val=0:=rfl
theorem GF.one_val:(1:GF).val=1:=rfl
theorem zbY:Fld GF where
 add_assoc a b c:=GF.ext (Nat.xor_assoc _ _ _)
 add_comm a b:=GF.ext (Nat.xor_comm _ _)
 add_zero a:=GF.ext (Nat.xor_zero _)
 add_neg a:=GF.ext (Nat.xor_self _)
 mul_assoc a b c:=GF.ext (pU a.lt b.lt c.lt)
 mul_comm a b:=GF.ext (QV a.lt b.lt)
 mul_one a:=GF.ext (Qp a.lt)
 mul_add a b c:=GF.ext (qb _ _ _)
 mul_inv a h:=GF.ext (zbU a.lt fun h0=>h (GF.ext h0))
 one_ne:=fun h=>by have:=congrArg GF.val h;simp[GF.one_val,GF.zero_val]at this
def gf(n:Nat):GF:=⟨n%256,Nat.mod_lt _ (by omega)⟩
theorem ko{n:Nat}(h:n<256):(gf n).val=n:=Nat.mod_eq_of_lt h
theorem zfC{a b:Nat}(ha:a<256)(hb:b<256)(h:gf a=gf b):a=b:=by
 have:=congrArg GF.val h;rwa [ko ha,ko hb]at this
def zgA(L:List (Nat×Nat)):Prop:=(∀a∈L,a.1<256/\a.2<256)/\(L.map Prod.fst).Nodup
def ptX(L:List (Nat×Nat))(j:Nat):GF:=gf (L.getD j (0,0)).1
def ptY(L:List (Nat×Nat))(j:Nat):GF:=gf (L.getD j (0,0)).2
def zgi(L:List (Nat×Nat))(x:GF):GF:=lag (ptX L) (ptY L) L.length x
def X8(L P:List (Nat×Nat)):Prop:=∀a∈P,zgi L (gf a.1)=gf a.2
def pl(H:Nat->Bool)(n:Nat):List Nat:=(List.range n).filter H
theorem kY(H:Nat->Bool)(n:Nat):pl H (n+1)=if H n then pl H n++[n] else pl H n:=by
 unfold pl;rw[List.range_succ,List.filter_append];by_cases h:H n
 . rw[if_pos h];simp[h]
 . rw[if_neg h];simp[h]
theorem Yp(H:Nat->Bool)(n:Nat):(pl H n).length<=n:=by
 have:=List.length_filter_le H (List.range n);unfold pl;simp at this ⊢;exact this
theorem qv{H:Nat->Bool}{n j:Nat}:j∈pl H n↔j<n/\H j=true:=by simp[pl]
theorem vS(H:Nat->Bool)(n:Nat):(pl H n).Nodup:=by rw[List.nodup_iff_pairwise_ne];exact List.Pairwise.filter _ (List.nodup_iff_pairwise_ne.1 List.nodup_range)
def pd(H:Nat->Bool)(n s:Nat):List Nat:=((List.range' (n-s) s).filter H).reverse
theorem zei(H:Nat->Bool)(n:Nat):pd H n 0=[]:=rfl
theorem zej(H:Nat->Bool){n s:Nat}(h:s<n):pd H n (s+1)=if H (n-1-s) then pd H n s++[n-1-s] else pd H n s:=by
 unfold pd;have e:List.range' (n-(s+1)) (s+1)=(n-1-s)::List.range' (n-s) s:=by
  rw[List.range'_succ,show n-(s+1)=n-1-s by omega,show n-1-s+1=n-s by omega]
 rw[e,List.filter_cons];by_cases h:H (n-1-s)
 . rw[if_pos h,if_pos h,List.reverse_cons]
 . rw[if_neg h,if_neg h]
theorem pS(H:Nat->Bool)(n:Nat):pd H n n=(pl H n).reverse:=by
 unfold pd pl;rw[Nat.sub_self,List.range_eq_range']
theorem zfw(H:Nat->Bool)(n s:Nat):(pd H n s).length<=s:=by
 have:=List.length_filter_le H (List.range' (n-s) s);unfold pd;simp at this ⊢;exact this
theorem zcR{H:Nat->Bool}{n s j:Nat}(hs:s<=n)(h:j∈pd H n s):j<n/\H j=true:=by
 unfold pd at h;rw[List.mem_reverse,List.mem_filter,List.mem_range'_1]at h;exact⟨by omega,h.2⟩
theorem Vk{l:List Nat}(h:l.Nodup):l.reverse.Nodup:=by
 rw[List.nodup_iff_pairwise_ne]at h ⊢;rw[List.pairwise_reverse];exact h.imp fun h=>h.symm
def atP(l:List Nat)(j:Nat):GF:=gf (l.getD j 0)
def byP(B:Nat->GF)(l:List Nat)(j:Nat):GF:=B (l.getD j 0)
theorem Qj{l:List Nat}{j:Nat}(h:j<l.length):l.getD j 0∈l:=by
 rw[List.getD_eq_getElem?_getD,List.getElem?_eq_getElem h];exact List.getElem_mem h
theorem zcS{l:List Nat}(hn:l.Nodup)(hl:∀a∈l,a<256):∀i j,i<l.length->j<l.length->i≠j->atP l i≠atP l j:=by
 intro i j hi hj hij he;unfold atP at he;have h1:=zfC (hl _ (Qj hi)) (hl _ (Qj hj)) he;rw[List.getD_eq_getElem?_getD,List.getD_eq_getElem?_getD,List.getElem?_eq_getElem hi,List.getElem?_eq_getElem hj]at h1;simp only[Option.getD_some]at h1;rw[List.nodup_iff_pairwise_ne,List.pairwise_iff_getElem]at hn;rcases Nat.lt_or_ge i j with h3|h3
 . exact hn i j hi hj h3 h1
 . exact hn j i hj hi (by omega) h1.symm
def qn(B:Nat->GF)(l:List Nat)(k:Nat)(x:GF):GF:=lag (atP l) (byP B l) k x
theorem Vl{B:Nat->GF}{l m:List Nat}{k:Nat}(hk:k<=m.length)(hn:m.Nodup)(hm:∀a∈m,a<256)(h:∀a∈m,qn B l k (gf a)=B a)(x:GF):qn B m k x=qn B l k x:=
 zdg zbY (Yz zbY _ _ k) _ _ (fun i j hi hj hij=>zcS hn hm i j (by omega) (by omega) hij) (fun j hj=>h _ (Qj (by omega))) x
def Fit(H:Nat->Bool)(B:Nat->GF)(l:List Nat)(k n:Nat):Prop:=∀a,a<n->H a=true->qn B l k (gf a)=B a
theorem Ka{H:Nat->Bool}{B:Nat->GF}{k n:Nat}(hn:n<=256)(hk:k<=(pl H n).length):
 (Fit H B (pl H n) k n↔Fit H B (pd H n n) k n)/\(Fit H B (pl H n) k n->∀x,qn B (pd H n n) k x=qn B (pl H n) k x):=by
 have m1:∀a∈pl H n,a<256:=fun a ha=>by have:=(qv.1 ha).1;omega
 have m2:∀a∈pd H n n,a<256:=fun a ha=>by rw[pS,List.mem_reverse]at ha;exact m1 a ha
 have n2:(pd H n n).Nodup:=by rw[pS];exact Vk (vS H n)
 have k2:k<=(pd H n n).length:=by rw[pS,List.length_reverse];exact hk
 have a1:Fit H B (pl H n) k n->∀x,qn B (pd H n n) k x=qn B (pl H n) k x:=fun h x=>
  Vl k2 n2 m2 (fun a ha=>by rw[pS,List.mem_reverse,qv]at ha;exact h a ha.1 ha.2) x
 have a2:Fit H B (pd H n n) k n->∀x,qn B (pl H n) k x=qn B (pd H n n) k x:=fun h x=>
  Vl hk (vS H n) m1 (fun a ha=>by rw[qv]at ha;exact h a ha.1 ha.2) x
 exact⟨⟨fun h a ha hb=>by rw[a1 h];exact h a ha hb,fun h a ha hb=>by rw[a2 h];exact h a ha hb⟩,a1⟩
theorem Vm(l:List Nat)(k a:Nat):(l++[a]).take k=if l.length<k then l.take k++[a] else l.take k:=by
 split
 . rename_i h;rw[List.take_of_length_le (by simp;omega),List.take_of_length_le (by omega)]
 . rename_i h;rw[List.take_append_of_le_length (by omega)]
def gI(a b:Int):Int:=(Int.gcd a b:Int)
theorem Jq(a b:Int):Int.gcd b (a.tmod b)=Int.gcd a b:=by
 simp only[Int.gcd,Int.natAbs_tmod];rw[Nat.gcd_comm,<-Nat.gcd_rec,Nat.gcd_comm]
theorem zex(a b:Int)(hb:b≠0):(a.tmod b).natAbs<b.natAbs:=by
 rw[Int.natAbs_tmod];exact Nat.mod_lt _ (by omega)
theorem Ko(a b M:Int)(ha: -M<=a/\a<=M): -M<=a.tmod b/\a.tmod b<=M:=by
 have h:(a.tmod b).natAbs<=a.natAbs:=by rw[Int.natAbs_tmod];exact Nat.mod_le _ _
 omega
theorem Kq(a m:Int)(hm:1<=m):(a.tmod m+m)%m=a%m:=by
 rw[Int.add_emod_right,Int.tmod_eq_emod]
 split
 . simp[Int.sub_zero,Int.emod_emod]
 . have:((m.natAbs:Int))=m:=by omega
   rw[this,Int.sub_emod,Int.emod_self];simp
structure Inv (a0 m a b x y:Int):Prop where
 a0':0<=a
 b0':0<=b
 am:a<=m
 bm:b<=m
 gcd:Int.gcd a b=1
 ax:m∣x*a0-a
 by':m∣y*a0-b
 sum:x.natAbs*b.natAbs+y.natAbs*a.natAbs<=m.natAbs
 xm:x.natAbs<=m.natAbs
 ym:y.natAbs<=m.natAbs
theorem Inv.start(a0 m:Int)(h0:0<=a0)(h1:a0<=m)(hm:1<=m)(hg:Int.gcd a0 m=1):Inv a0 m a0 m 1 0:=
 ⟨h0,by omega,h1,Int.le_refl _,hg,⟨0,by simp⟩,⟨-1,by simp⟩,by simp,by omega,by simp⟩
theorem Inv.step{a0 m a b x y:Int}(h:Inv a0 m a b x y)(hb:b≠0):
 Inv a0 m b (a-a / b*b) y (x-a / b*y):=by
 have hb1:1<=b:=by have:=h.b0';omega
 have hr:a-a / b*b=a%b:=by have:=Int.emod_add_mul_ediv a b;rw[Int.mul_comm]at this;omega
 have hr0:0<=a%b:=Int.emod_nonneg a hb;have hrb:a%b<b:=Int.emod_lt_of_pos a (by omega);have hq0:0<=a / b:=Int.ediv_nonneg h.a0' (by omega);have hy:(x-a / b*y).natAbs<=x.natAbs+(a / b).natAbs*y.natAbs:=by
  have:=Int.natAbs_sub_le x (a / b*y);rw[Int.natAbs_mul]at this;exact this
 have hsum:y.natAbs*(a%b).natAbs+(x-a / b*y).natAbs*b.natAbs<=m.natAbs:=by
  have e:a.natAbs=(a%b).natAbs+(a / b).natAbs*b.natAbs:=by
   have h2:=Int.emod_add_mul_ediv a b;have h3:((a.natAbs:Int))=((a%b).natAbs:Int)+((a / b).natAbs:Int)*(b.natAbs:Int):=by
    rw[Int.natAbs_of_nonneg h.a0',Int.natAbs_of_nonneg hr0,Int.natAbs_of_nonneg hq0,Int.natAbs_of_nonneg h.b0',Int.mul_comm (a / b)];omega
   exact_mod_cast h3
  have h4:=h.sum;rw[e]at h4
  calc y.natAbs*(a%b).natAbs+(x-a / b*y).natAbs*b.natAbs
   <=y.natAbs*(a%b).natAbs+(x.natAbs+(a / b).natAbs*y.natAbs)*b.natAbs:=Nat.add_le_add_left (Nat.mul_le_mul_right _ hy) _
   _=x.natAbs*b.natAbs+y.natAbs*((a%b).natAbs+(a / b).natAbs*b.natAbs):=by
    simp only[Nat.add_mul,Nat.mul_add,Nat.mul_assoc,Nat.mul_comm,Nat.mul_left_comm];omega
   _<=m.natAbs:=h4
 refine⟨h.b0',by rw[hr];exact hr0,h.bm,by rw[hr];have:=h.bm;omega,?_,h.by',?_,by rw[hr];exact hsum,h.ym,?_⟩
 . rw[hr,<-h.gcd];have:=Jq a b;rw[Int.tmod_eq_emod_of_nonneg h.a0']at this;exact this
 . obtain⟨u,hu⟩:=h.ax;obtain⟨v,hv⟩:=h.by';refine⟨u-a / b*v,?_⟩;have e1:x*a0=m*u+a:=by omega
   have e2:y*a0=m*v+b:=by omega
   rw[Int.sub_mul,Int.mul_assoc,e1,e2,Int.mul_sub,Int.mul_add];have e3:m*(a / b*v)=a / b*(m*v):=by rw[Int.mul_left_comm]
   rw[e3];omega
 . have:(x-a / b*y).natAbs*1<=(x-a / b*y).natAbs*b.natAbs:=Nat.mul_le_mul_left _ (by omega);omega
theorem Inv.last{a0 m a x y:Int}(h:Inv a0 m a 0 x y):a=1/\m∣x*a0-1:=by
 have h1:=h.gcd;have h0:=h.a0';simp[Int.gcd]at h1;have:a=1:=by omega
 subst this;exact⟨rfl,h.ax⟩
theorem Inv.bounds{a0 m a b x y:Int}(h:Inv a0 m a b x y)(hb:b≠0)(hm:m<=1000000000):
 0<=a / b/\a / b<=1000000000/\0<=a / b*b/\a / b*b<=1000000000/\ -1000000000000000000<=a / b*y/\a / b*y<=1000000000000000000:=by
 have hb1:1<=b:=by have:=h.b0';omega
 have hq0:0<=a / b:=Int.ediv_nonneg h.a0' (by omega);have hqa:a / b<=a:=Int.ediv_le_self _ h.a0';have h2:=Int.emod_add_mul_ediv a b;rw[Int.mul_comm]at h2;have hr0:0<=a%b:=Int.emod_nonneg a hb;have ham:=h.am;have hqb:0<=a / b*b:=Int.mul_nonneg hq0 (by omega);have hym:=h.ym;have hp:(a / b*y).natAbs<=1000000000*1000000000:=by
  rw[Int.natAbs_mul];exact Nat.mul_le_mul (by omega) (by omega)
 omega
def IsInv(a m X:Int):Prop:=0<=X/\X<m/\m∣X*a-1
noncomputable def Vw(a m:Int):Int:=Classical.epsilon (IsInv a m)
theorem IsInv.uniq{a m X Y:Int}(h:IsInv a m X)(k:IsInv a m Y):X=Y:=by
 obtain⟨h0,h1,u,hu⟩:=h;obtain⟨k0,k1,v,hv⟩:=k;have e:X-Y=m*(Y*u-X*v):=by
  have e1:X*(Y*a)=X+m*(X*v):=by
   have:Y*a=m*v+1:=by omega
   rw[this,Int.mul_add,Int.mul_one,Int.mul_left_comm];omega
  have e2:Y*(X*a)=Y+m*(Y*u):=by
   have:X*a=m*u+1:=by omega
   rw[this,Int.mul_add,Int.mul_one,Int.mul_left_comm];omega
  have e3:X*(Y*a)=Y*(X*a):=by rw[Int.mul_left_comm]
  rw[Int.mul_sub];omega
 have hd:m∣X-Y:=⟨_,e⟩
 have h2:=Int.emod_eq_emod_iff_emod_sub_eq_zero.2 (Int.emod_eq_zero_of_dvd hd)
 rwa [Int.emod_eq_of_lt h0 h1,Int.emod_eq_of_lt k0 k1]at h2
theorem Qv{a m X:Int}(h:IsInv a m X):Vw a m=X:=(Classical.epsilon_spec (p:=IsInv a m) ⟨X,h⟩).uniq h
theorem IsInv.of{a m X:Int}(h:IsInv a m X):IsInv a m (Vw a m):=by rw[Qv h];exact h
theorem Q0{a m x:Int}(hm:1<=m)(h:m∣x*(a%m)-1):IsInv a m (x%m):=by
 refine⟨Int.emod_nonneg _ (by omega),Int.emod_lt_of_pos _ (by omega),?_⟩;apply Int.dvd_of_emod_eq_zero;have h1:=Int.emod_eq_zero_of_dvd h;rw[Int.sub_emod,Int.mul_emod,Int.emod_emod]at h1 ⊢;simpa using h1
theorem Jr(a m:Int):Int.gcd (a%m) m=Int.gcd a m:=by rw[Int.emod_def,Int.gcd_sub_mul_left_left]
theorem zb8(a b:Int)(hb:b≠0):∃g a' b':Int,g=Int.gcd a b/\1<=g/\a=g*a'/\b=g*b'/\Int.gcd a' b'=1/\b'≠0:=by
 have hg:0<Int.gcd a b:=Int.gcd_pos_of_ne_zero_right a hb;obtain⟨a',ha⟩:=Int.gcd_dvd_left (a:=a) (b:=b);obtain⟨b',hb'⟩:=Int.gcd_dvd_right (a:=a) (b:=b);refine⟨_,a',b',rfl,by omega,ha,hb',?_,?_⟩
 . have h:=Int.gcd_mul_left (Int.gcd a b:Int) a' b';rw[<-ha,<-hb']at h;have h2:Int.gcd a b*Int.gcd a' b'=Int.gcd a b*1:=by simpa using h.symm
   exact Nat.eq_of_mul_eq_mul_left hg h2
 . intro h;rw[h]at hb';simp at hb';exact hb hb'
noncomputable def qc(a b:Int):Int:=
 if b=0 then(if 0<a then 1 else if a<0 then -1 else 0) else Vw (a.tdiv (gI a b)) ((max b (-b)).tdiv (gI a b))
noncomputable def jp(a b:Int):Int:=if b=0 then 0 else(gI a b-qc a b*a).tdiv b
theorem ZC(g a:Int)(hg:1<=g):(g*a).tdiv g=a:=Int.mul_tdiv_cancel_left a (by omega)
theorem Js(g b:Int)(hg:1<=g):max (g*b) (-(g*b))=g*max b (-b):=by
 have h1:∀x:Int,max x (-x)=x.natAbs:=by intro x;omega
 rw[h1,h1,Int.natAbs_mul];push_cast;rw[show((g.natAbs:Int))=g by omega]
theorem Q1(a b:Int)(hb:b≠0):∃g a' b':Int,g=gI a b/\1<=g/\a=g*a'/\b=g*b'/\a.tdiv g=a'/\(max b (-b)).tdiv g=max b' (-b')/\1<=max b' (-b')/\Int.gcd a' (max b' (-b'))=1:=by
 obtain⟨g,a',b',h1,h2,h3,h4,h5,h6⟩:=zb8 a b hb;refine⟨g,a',b',h1,h2,h3,h4,by rw[h3,ZC g a' h2],by rw[h4,Js g b' h2,ZC _ _ h2],by omega,?_⟩;have:max b' (-b')=b'.natAbs:=by omega
 rw[this];simpa[Int.gcd]using h5
theorem YJ(a m:Int)(hm:1<=m)(hg:Int.gcd a m=1):∃X,IsInv a m X:=by
 suffices H:∀(k:Nat) (c x y d:Int),d.natAbs<=k->Inv (a%m) m c d x y->∃X,IsInv a m X by
  exact H _ _ _ _ _ (Nat.le_refl _) (Inv.start (a%m) m (Int.emod_nonneg a (by omega)) (Int.le_of_lt (Int.emod_lt_of_pos a (by omega))) hm (by rw[Jr];exact hg))
 intro k;induction k with
 |zero=>
  intro c x y d hk h;obtain rfl:d=0:=by omega
  exact⟨_,Q0 hm h.last.2⟩
 |succ k ih=>
  intro c x y d hk h;by_cases hd:d=0
  . subst hd;exact⟨_,Q0 hm h.last.2⟩
  . refine ih _ _ _ _ ?_ (h.step hd);have h1:=Int.emod_lt_of_pos c (b:=d) (by have:=h.b0';omega);have h3:=Int.emod_nonneg c hd;have h4:=Int.emod_add_mul_ediv c d;rw[Int.mul_comm]at h4;have:=h.b0';omega
theorem zbp(a b:Int)(hb:b≠0):0<=qc a b/\qc a b<(max b (-b)).tdiv (gI a b)/\qc a b*a+jp a b*b=gI a b:=by
 obtain⟨g,a',b',h1,h2,h3,h4,h5,h6,h7,h8⟩:=Q1 a b hb;obtain⟨X,hX⟩:=YJ a' _ h7 h8;have hx:qc a b=X:=by unfold qc;rw[if_neg hb,<-h1,h5,h6,Qv hX]
 rw[hx,<-h1,h6];refine⟨hX.1,hX.2.1,?_⟩;obtain⟨u,hu⟩:=hX.2.2;have hb'm:∃v:Int,max b' (-b')*u=b'*v:=by
  rcases Int.le_total 0 b' with h|h
  . exact⟨u,by rw[Int.max_eq_left (by omega)]⟩
  . exact⟨-u,by rw[Int.max_eq_right (by omega),Int.neg_mul,Int.mul_neg]⟩
 obtain⟨v,hv⟩:=hb'm;have e:g-X*a=b*(-v):=by
  rw[h3,h4];have:X*(g*a')=g*(X*a'):=by rw[Int.mul_left_comm]
  rw[this,show X*a'=b'*v+1 by omega,Int.mul_add,Int.mul_neg,Int.mul_assoc];omega
 have hy:jp a b= -v:=by
  unfold jp;rw[if_neg hb,hx,<-h1,e,Int.mul_tdiv_cancel_left _ hb]
 rw[hy,Int.mul_comm (-v) b,<-e];omega
theorem zfD(b:Int):max b (-b)=if b< -b then -b else b:=by split<;>omega
theorem zfS(a b:Int)(hb:b≠0):gI a b<=max b (-b):=by
 have:=Int.gcd_le_natAbs_right (a:=a) (b:=b) hb;unfold gI;omega
theorem zfE(a b:Int)(h:a≠0\/b≠0):1<=gI a b:=by
 have:0<Int.gcd a b:=by
  rcases h with h|h
  . exact Int.gcd_pos_of_ne_zero_left b h
  . exact Int.gcd_pos_of_ne_zero_right a h
 unfold gI;omega
structure BezSteps (a b:Int):Prop where
 g1:1<=gI a b
 gm:gI a b<=1000000000
 lo: -1000000000<=a.tdiv (gI a b)
 hi:a.tdiv (gI a b)<=1000000000
 m1:1<=(if b< -b then -b else b) / gI a b
 mm:(if b< -b then -b else b) / gI a b<=1000000000
 gcd:Int.gcd (a.tdiv (gI a b)) ((if b< -b then -b else b) / gI a b)=1
 x:Vw (a.tdiv (gI a b)) ((if b< -b then -b else b) / gI a b)=qc a b
 y:(gI a b-qc a b*a).tdiv b=jp a b
 x0:0<=qc a b
 xm:qc a b<=1000000000
 plo: -1000000000000000000<=qc a b*a
 phi:qc a b*a<=1000000000000000000
 ylo: -9223372036854775808<=(gI a b-qc a b*a).tdiv b
 yhi:(gI a b-qc a b*a).tdiv b<=9223372036854775807
theorem YK(a b:Int)(ha: -1000000000<=a)(ha':a<=1000000000)(hb: -1000000000<=b)(hb':b<=1000000000)(h0:b≠0):BezSteps a b:=by
 obtain⟨l0,l1,l2⟩:=zbp a b h0;have hx:qc a b=Vw (a.tdiv (gI a b)) ((max b (-b)).tdiv (gI a b)):=by unfold qc;rw[if_neg h0]
 have hy:jp a b=(gI a b-qc a b*a).tdiv b:=by unfold jp;rw[if_neg h0]
 have hg:=zfS a b h0;have hg1:=zfE a b (.inr h0);obtain⟨g,a',b',h1,h2,h3,h4,h5,h6,h7,h8⟩:=Q1 a b h0;have hq:(max b (-b)).tdiv (gI a b)=(max b (-b)) / gI a b:=Int.tdiv_eq_ediv_of_nonneg (by omega);have hq2:(max b (-b)) / gI a b<=max b (-b):=Int.ediv_le_self _ (by omega);have hta:(a.tdiv (gI a b)).natAbs<=a.natAbs:=Int.natAbs_tdiv_le_natAbs _ _;have hp:(qc a b*a).natAbs<=1000000000*1000000000:=by
  rw[Int.natAbs_mul];exact Nat.mul_le_mul (by omega) (by omega)
 have hty:((gI a b-qc a b*a).tdiv b).natAbs<=(gI a b-qc a b*a).natAbs:=Int.natAbs_tdiv_le_natAbs _ _;subst h1;rw[hq]at hx l1;rw[h6]at hq;simp only[zfD]at*;exact⟨by omega,by omega,by omega,by omega,by omega,by omega,by rw[h5,<-hq];exact h8,hx.symm,hy.symm,l0,by omega,by omega,by omega,by omega,by omega⟩
def IsPr(n:Nat):Prop:=2<=n/\∀d,2<=d->d<n->¬d∣n
noncomputable def prB(n:Nat):Bool:=@decide (IsPr n) (Classical.propDecidable _)
theorem Yj{n:Nat}:prB n=true↔IsPr n:=by unfold prB;exact @decide_eq_true_iff _ (Classical.propDecidable _)
theorem Jc{n:Nat}:prB n=false↔¬IsPr n:=by unfold prB;exact @decide_eq_false_iff_not _ (Classical.propDecidable _)
theorem Qo{n:Nat}(h:IsPr n):prB n=true:=Yj.2 h
theorem q8{n:Nat}(h:¬IsPr n):prB n=false:=Jc.2 h
def NoDiv(n d:Nat):Prop:=∀e,2<=e->e<d->¬e∣n
theorem NoDiv.start(n:Nat):NoDiv n 2:=fun e h1 h2=>by omega
theorem NoDiv.next{n d:Nat}(h:NoDiv n d)(hd:¬d∣n):NoDiv n (d+1):=by
 intro e h1 h2;by_cases he:e=d
 . subst he;exact hd
 . exact h e h1 (by omega)
theorem NoDiv.prime{n d:Nat}(h:NoDiv n d)(hn:2<=n)(hd:n<d*d):IsPr n:=by
 refine⟨hn,fun e h1 h2 hdv=>?_⟩;obtain⟨c,hc⟩:=hdv;have hc2:2<=c:=by
  rcases Nat.lt_or_ge c 2 with h3|h3
  . have:c=0\/c=1:=by omega
    rcases this with h4|h4
    . subst h4;omega
    . subst h4;omega
  . exact h3
 by_cases hed:e<d
 . exact h e h1 hed ⟨c,hc⟩
 . by_cases hcd:c<d
   . exact h c hc2 hcd ⟨e,by rw[hc,Nat.mul_comm]⟩
   . have:d*d<=e*c:=Nat.mul_le_mul (by omega) (by omega);omega
theorem NoDiv.notPrime{n d:Nat}(hd:2<=d)(h2:d*d<=n)(hdv:d∣n):¬IsPr n:=by
 intro h;refine h.2 d hd ?_ hdv;have:d*2<=d*d:=Nat.mul_le_mul_left d hd;omega
theorem NoDiv.divisor{n d:Nat}(h:NoDiv n d)(hd:2<=d)(hdv:d∣n):IsPr d:=
 ⟨hd,fun e h1 h2 h3=>h e h1 h2 (Nat.dvd_trans h3 hdv)⟩
theorem NoDiv.of_dvd{n m d:Nat}(h:NoDiv n d)(hm:m∣n):NoDiv m d:=fun e h1 h2 h3=>h e h1 h2 (Nat.dvd_trans h3 hm)
theorem NoDiv.ge{n d:Nat}(h:NoDiv n d)(hn:2<=n):d<=n:=by
 rcases Nat.lt_or_ge n d with h1|h1
 . exact absurd ⟨1,by simp⟩ (h n hn h1)
 . exact h1
theorem zax(n:Nat)(h:n<4):IsPr n↔n=2\/n=3:=by
 constructor
 . intro h1;have:=h1.1;omega
 . rintro(h1|h1)
   . subst h1;exact⟨by omega,fun d h2 h3=>by omega⟩
   . subst h1;refine⟨by omega,fun d h2 h3 h4=>?_⟩;obtain rfl:d=2:=by omega
     omega
theorem NoDiv.six{n d:Nat}(h:NoDiv n d)(h2:¬2∣n)(h3:¬3∣n)(hd:d%6=5)(hd1:¬d∣n)(hd2:¬(d+2)∣n):NoDiv n (d+6):=by
 have e2:∀e,e%2=0->¬e∣n:=fun e he hdv=>h2 (Nat.dvd_trans (by omega) hdv)
 have e3:∀e,e%3=0->¬e∣n:=fun e he hdv=>h3 (Nat.dvd_trans (by omega) hdv)
 have s1:=h.next hd1;have s2:=s1.next (e2 (d+1) (by omega));have s3:=s2.next hd2;have s4:=s3.next (e2 (d+3) (by omega));have s5:=s4.next (e3 (d+4) (by omega));exact s5.next (e2 (d+5) (by omega))
theorem NoDiv.five{n:Nat}(h2:¬2∣n)(h3:¬3∣n):NoDiv n 5:=by
 intro e h4 h5 h6;have:e=2\/e=3\/e=4:=by omega
 rcases this with h|h|h
 . subst h;exact h2 h6
 . subst h;exact h3 h6
 . subst h;exact h2 (Nat.dvd_trans (by omega) h6)
theorem jz{n d:Nat}(h1:2<=d)(h2:d<n)(h3:d∣n):¬IsPr n:=fun h=>h.2 d h1 h2 h3
def zU:List (Nat×Nat)->Nat
 |[]=>1
 |a::l=>a.1^a.2*zU l
theorem Y4(l m:List (Nat×Nat)):zU (l++m)=zU l*zU m:=by
 induction l with
 |nil=>simp[zU]
 |cons a l ih=>simp[zU,ih,Nat.mul_assoc]
structure Factors (n:Nat) (l:List (Nat×Nat)):Prop where
 prod:zU l=n
 inc:l.Pairwise (fun a b=>a.1<b.1)
 pr:∀a∈l,IsPr a.1/\1<=a.2
structure Fac (n m d:Nat) (l:List (Nat×Nat)):Prop where
 prod:zU l*m=n
 inc:l.Pairwise (fun a b=>a.1<b.1)
 pr:∀a∈l,IsPr a.1/\1<=a.2/\a.1<d
 nod:NoDiv m d
 m1:1<=m
theorem Fac.start(n:Nat)(h:1<=n):Fac n n 2 []:=⟨by simp[zU],List.Pairwise.nil,by simp,NoDiv.start n,h⟩
theorem Fac.last{n d:Nat}{l:List (Nat×Nat)}(h:Fac n 1 d l):Factors n l:=
 ⟨by have:=h.prod;omega,h.inc,fun a ha=>⟨(h.pr a ha).1,(h.pr a ha).2.1⟩⟩
theorem Fac.jump{n m d:Nat}{l:List (Nat×Nat)}(h:Fac n m d l)(h2:2<=m)(hs:m<d*d):Fac n m m l:=by
 have hp:=h.nod.prime h2 hs;have hd:=h.nod.ge h2;exact⟨h.prod,h.inc,fun a ha=>⟨(h.pr a ha).1,(h.pr a ha).2.1,by have:=(h.pr a ha).2.2;omega⟩,fun e h1 h3 h4=>hp.2 e h1 h3 h4,h.m1⟩
theorem Fac.skip{n m d:Nat}{l:List (Nat×Nat)}(h:Fac n m d l)(hd:¬d∣m):Fac n m (d+1) l:=
 ⟨h.prod,h.inc,fun a ha=>⟨(h.pr a ha).1,(h.pr a ha).2.1,by have:=(h.pr a ha).2.2;omega⟩,h.nod.next hd,h.m1⟩
theorem Fac.take{n m d k m2:Nat}{l:List (Nat×Nat)}(h:Fac n m d l)(h2:2<=d)(hk:1<=k)(he:d^k*m2=m)(hn:¬d∣m2):Fac n m2 (d+1) (l++[(d,k)]):=by
 have hdm:d∣m:=by
  rw[<-he];refine⟨d^(k-1)*m2,?_⟩;rw[<-Nat.mul_assoc,Nat.mul_comm d,<-Nat.pow_succ]
  congr 2;omega
 have hpd:=h.nod.divisor h2 hdm;refine⟨?_,?_,?_,(h.nod.of_dvd ⟨d^k,by rw[<-he,Nat.mul_comm]⟩).next hn,?_⟩
 . rw[Y4];simp only[zU,Nat.mul_one];rw[Nat.mul_assoc,he];exact h.prod
 . rw[List.pairwise_append];refine⟨h.inc,by simp,fun a ha b hb=>?_⟩;simp at hb;subst hb;exact(h.pr a ha).2.2
 . intro a ha;rw[List.mem_append]at ha;rcases ha with ha|ha
   . exact⟨(h.pr a ha).1,(h.pr a ha).2.1,by have:=(h.pr a ha).2.2;omega⟩
   . simp at ha;subst ha;exact⟨hpd,hk,Nat.lt_succ_self _⟩
 . rcases Nat.eq_zero_or_pos m2 with h0|h0
   . subst h0;simp at he;have:=h.m1;omega
   . exact h0
theorem Y5{d m m2 k:Nat}(h:d^k*m2=m)(hd:d∣m2):d^(k+1)*(m2 / d)=m:=by
 rw[Nat.pow_succ,Nat.mul_assoc,Nat.mul_div_cancel' hd,h]
def zfP(n d:Nat):Bool:=decide (1<=d/\d∣n)
def zf9(n:Nat):List Nat:=(List.range (n+1)).filter (zfP n)
def zga(n k:Nat):List Nat:=(List.range k).filter (zfP n)
def zgp(n k:Nat):List Nat:=((zga n k).filter fun d=>decide (d*d<n)).map fun d=>n / d
end Go.Proofs.YtmgfbmkfomebcaaGreatDoor
