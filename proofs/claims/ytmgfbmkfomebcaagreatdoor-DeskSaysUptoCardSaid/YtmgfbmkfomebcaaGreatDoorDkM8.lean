/- Append of one cell onto one of two rows of the call's own, at a step of a region that draws its order. Laws over whatever program. -/
import Derived.Test.YtmgfbmkfomebcaaGreatDoorDkM7
import Derived.MapKept
import Derived.Tactics
import Derived.Laws.IdiomCopy
import Derived.Test.YtmgfbmkfomebcaaGreatDoorRows
import Derived.Test.YtmgfbmkfomebcaaGreatDoorDkM3
import Derived.Test.YtmgfbmkfomebcaaGreatDoorDkM1
import Derived.Test.YtmgfbmkfomebcaaGreatDoorDkM2
import Derived.Lib.BitFns
import Derived.Deep.SlicePairs
import Derived.ChangeArms
set_option linter.unusedVariables false
set_option linter.unusedSimpArgs false
set_option maxHeartbeats 4000000
set_option maxRecDepth 100000
namespace Go.Proofs.YtmgfbmkfomebcaaGreatDoor
open Go.RowKit
theorem zb{B:Nat}{w w':World}(h:Below B w w'):Below B w w'.drew:=zg h 1
theorem zl(w:World)(o:Obj)(k:Nat)(hk:w.heap.size=k):(w.alloc o).heap[k]?=some o:=by subst hk;exact heap_alloc_new w o
theorem yu{w:World}{k:Nat}{b:Obj}(h:w.heap[k]?=some b):w.drew.heap[k]?=some b:=h
theorem yO{w:World}{n k:Nat}{b:Obj}(h:w.heap[k]?=some b):(w.drewN n).heap[k]?=some b:=h
theorem za(w:World)(o:Obj){k:Nat}{b:Obj}(h:w.heap[k]?=some b):(w.alloc o).heap[k]?=some b:=by
 have:=(Array.getElem?_eq_some_iff.1 h).1;show(w.heap.push o)[k]?=_;rw[Array.getElem?_push,if_neg (by omega)];exact h
theorem zY{w w':World}{r:Option Nat}{k:Nat}{b:Obj}(hg:w.grownBy w' r)(h:w.heap[k]?=some b)(hne:some k≠r):w'.heap[k]?=some b:=by
 rw[hg.block k (Array.getElem?_eq_some_iff.1 h).1 hne];exact h
theorem kX{w:World}{base e size:Nat}{v:Value}{n:Nat}{xs:List Value}(h:w.ownsRow base e size v n xs){k:Nat}(hk:w.heap.size<=k):some k≠v.ownBlock:=by
 intro he;have:=(h.lt k he.symm).2;omega
theorem kx{P:Program}{W:World}{ops:Array Oper}{o:Oper}{a:Act}{K:Act->World->Prop}{Q:Exit->Act->World->Prop}{E:Prop}(hgd:o.guard=none)(s x:Operand)(t:TypeId)
 (ho:o.op=.call {callee:=.builtin .append,args:=#[s,x],argTypes:=#[t,t]})
 (base:Nat)(e:TypeId)(z:Value)(bytes:Nat)(ht:P.underlying t=some (.slice e))(hE:yb P e z 1 bytes)
 (v:Value)(n:Nat)(xs:List Value)(hs:a.eval s=v)(w0:World)(hown:w0.ownsRow base e 1 v n xs)
 (e2:TypeId)(v2:Value)(m:Nat)(ys:List Value)(hoth:w0.ownsRow base e2 1 v2 m ys)(hap:Apart v v2)
 (wb:World)(hb:Below base wb w0)(hbs:base<=wb.heap.size)(hW:Below w0.heap.size w0 W)
 (q:Nat)(u:Value)(hx:a.eval x=.slice (some ⟨q,0,none⟩) 1 1)(hq:W.heap[q]?=some (.cells #[u] e))(h1:u.oneCell'=true)
 (h63:n+1<=maxLen)(hbytes:(n+1)*bytes<=140737488355328)
 (h:∀g cap w',w'.ownsRow base e 1 (.slice (some ⟨g,0,none⟩) (n+1) cap) (n+1) (xs++[u])->w'.ownsRow base e2 1 v2 m ys->Apart (.slice (some ⟨g,0,none⟩) (n+1) cap) v2->Below base wb w'->
  W.grownBy w' v.ownBlock->K (a.put o.dst (.slice (some ⟨g,0,none⟩) (n+1) cap)) w'):
 if Region.wanted o (yielded ops a.tmps)=true then Oper.wp P o a W K Q else E:=by
 obtain⟨i,hi,hz,hsize,hby,hzs,hsz1⟩:=hE;have hownW:=zi hown hW;have hothW:=zi hoth hW;have hbW:Below base wb W:=hb.trans (Below.mono hW hb.size|>.mono (by omega));refine step_append_lies W hgd s x t ho base e i z 1 bytes ht hi hz hsize hby hzs hsz1 v n xs hs hownW ⟨q,0,none⟩ 1 1 [u] hx (by simp) (World.news_of_block hq) (by intro q hq;simp at hq;subst hq;exact h1) (by omega) h63 hbytes (Nat.le_trans hbs hbW.size) W.heap.size rfl ?_;intro g cap w' hown' hgr hat hlt;refine h g cap w' hown' (hothW.kept hgr ?_) (hap.grow (k:=W.heap.size) ?_ fun g hg=>(hothW.lt g hg).2) (hbW.grown hgr (Nat.le_trans hbs hbW.size) fun k hk=>(hown.lt k hk).1) hgr
 . cases hu:v2.ownBlock with
   |none=>exact .inl rfl
   |some g=>right;intro hv;exact hap g hv.symm hu
 . rcases hat with h|h
   . exact .inl h.symm
   . right;rw[h];rfl
theorem zd{W:World}{B:Nat}{cs:Array Value}{t:TypeId}{fr:Nat×Nat}(h:W.heap[B]?=some (.cells cs t fr))(j:Nat):W.cell? ⟨B,j,none⟩=cs[j]? :=cell_of_row W B j cs t fr h
theorem zm{W:World}{B:Nat}{cs:Array Value}{t:TypeId}(h:W.heap[B]?=some (.cells cs t (0,0)))(j:Nat):W.frozen? ⟨B,j,none⟩=false:=by simp[World.frozen?,h]
theorem heap_set{W:World}{B j:Nat}{cs:Array Value}{t:TypeId}{fr:Nat×Nat}(v:Value)(h:W.heap[B]?=some (.cells cs t fr)):(W.setCell ⟨B,j,none⟩ v).heap[B]?=some (.cells (cs.setIfInBounds j v) t fr):=by
 obtain⟨hlt,hk⟩:=Array.getElem?_eq_some_iff.1 h;show(W.heap.modify B _)[B]?=_;rw[Array.getElem?_eq_getElem (by rw[Array.size_modify];exact hlt),Array.getElem_modify_self,hk];rfl
theorem zf{W:World}{B B' j:Nat}(v:Value)(hne:B≠B'):(W.setCell ⟨B,j,none⟩ v).heap[B']?=W.heap[B']? :=Below.heap_setCell _ _ _ B' (fun e=>hne e.symm)
theorem zk{n₀ B j:Nat}{A W:World}(h:Below n₀ A W)(hB:n₀<=B)(v:Value):Below n₀ A (W.setCell ⟨B,j,none⟩ v):=h.setCell (p:=⟨B,j,none⟩) hB v
theorem V8{P:Program}{W:World}{ops:Array Oper}{o:Oper}{a:Act}{K:Act->World->Prop}{Q:Exit->Act->World->Prop}{E:Prop}(hgd:o.guard=none)(s x:Operand)(t:TypeId)
 (ho:o.op=.call {callee:=.builtin .append,args:=#[s,x],argTypes:=#[t,t]})
 (base:Nat)(e:TypeId)(z:Value)(size bytes:Nat)(ht:P.underlying t=some (.slice e))(hE:yb P e z size bytes)
 (v:Value)(n:Nat)(xs:List Value)(hs:a.eval s=v)(w0:World)(hown:w0.ownsRow base e size v n xs)
 (wb:World)(hb:Below base wb w0)(hbs:base<=wb.heap.size)(hW:Below w0.heap.size w0 W)
 (q:Nat)(us:Array Value)(hx:a.eval x=.slice (some ⟨q,0,none⟩) 1 1)(hq:W.heap[q]?=some (.cells us e))(hlen:us.size=size)(h1:∀u∈us.toList,u.oneCell'=true)
 (h63:n+1<=maxLen)(hbytes:(n+1)*bytes<=140737488355328)
 (h:∀v' w',w'.ownsRow base e size v' (n+1) (xs++us.toList)->Below base wb w'->K (a.put o.dst v') w'):
 if Region.wanted o (yielded ops a.tmps)=true then Oper.wp P o a W K Q else E:=by
 obtain⟨i,hi,hz,hsize,hby,hzs,hsz1⟩:=hE;have hownW:=zi hown hW;have hbW:Below base wb W:=hb.trans (Below.mono hW hb.size|>.mono (by omega));refine step_append_lies W hgd s x t ho base e i z size bytes ht hi hz hsize hby hzs hsz1 v n xs hs hownW ⟨q,0,none⟩ 1 1 us.toList hx (by simp[hlen]) (World.news_of_block hq) h1 (by omega) h63 hbytes (Nat.le_trans hbs hbW.size) W.heap.size rfl ?_;intro g cap w' hown' hgr hat hlt;exact h _ w' hown' (hbW.grown hgr (Nat.le_trans hbs hbW.size) fun k hk=>(hown.lt k hk).1)
theorem zeX{P:Program}{w:World}{mty kt et:TypeId}{d:TypeDesc}{r clock:Nat}{es:Array MapEntry}{key val:Value}(hm:P.underlying mty=some (.map kt et))(hk:P.underlying kt=some d)(hd:MapKept.IsKey d key)(hb:w.heap[r]?=some (.map es clock))(hf:Instr.findNow d key es.toList 0=some none):
 (Instr.mapUpdate mty (.map (some r)) key val).run P w=.ok () {w with heap:=w.heap.setIfInBounds r (.map (es.push {key:=key,val:=val,born:=clock}) (clock+1))}:=by
 have hc:(Instr.checkKey false 10000 kt key).run P w=.ok () w:=MapKept.run_checkKey (k:=key) hk hd false 9999;simp[Instr.mapUpdate,run_underlying hm,MapKept.run_getObj_map hb,hc,MapKept.run_findKey hk hf,MapKept.run_setObj_map _ hb,Result.andThen]
theorem kA{P:Program}{w:World}{mty kt et:TypeId}{d:TypeDesc}{r clock i:Nat}{es:Array MapEntry}{key v:Value}(hm:P.underlying mty=some (.map kt et))(hk:P.underlying kt=some d)(hd:MapKept.IsKey d key)(hb:w.heap[r]?=some (.map es clock))(hf:Instr.findNow d key es.toList 0=some (some (i,v))):
 (Instr.lookup mty (.map (some r)) key false).run P w=.ok v w:=by
 have hc:(Instr.checkKey es.isEmpty 10000 kt key).run P w=.ok () w:=MapKept.run_checkKey (k:=key) hk hd _ 9999;simp[Instr.lookup,run_underlying hm,MapKept.run_getObj_map hb,hc,MapKept.run_findKey hk hf,Result.andThen]
theorem zaQ{P:Program}{w:World}{mty kt et:TypeId}{d:TypeDesc}{r clock:Nat}{es:Array MapEntry}{key z:Value}(hm:P.underlying mty=some (.map kt et))(hk:P.underlying kt=some d)(hd:MapKept.IsKey d key)(hb:w.heap[r]?=some (.map es clock))(hf:Instr.findNow d key es.toList 0=some none)
 (hz:(zeroValue et).run P w=.ok z w):
 (Instr.lookup mty (.map (some r)) key false).run P w=.ok z w:=by
 have hc:(Instr.checkKey es.isEmpty 10000 kt key).run P w=.ok () w:=MapKept.run_checkKey (k:=key) hk hd _ 9999;simp[Instr.lookup,run_underlying hm,MapKept.run_getObj_map hb,hc,MapKept.run_findKey hk hf,hz,Result.andThen]
def zfH(w:World)(r:Nat)(o:Obj):World:={w with heap:=w.heap.setIfInBounds r o}
theorem zeY{w:World}{r:Nat}{o o':Obj}(h:w.heap[r]?=some o):(zfH w r o').heap[r]?=some o':=(MapKept.heap_set h).1
theorem zaR{w w0:World}{r B:Nat}{o:Obj}(h:Below B w0 w)(hB:B<=r):Below B w0 (zfH w r o):=
 ⟨h.os,h.tape,h.output,by show w0.heap.size<=(w.heap.setIfInBounds r o).size;rw[Array.size_setIfInBounds];exact h.size,fun k hk=>by
  show(w.heap.setIfInBounds r o)[k]?=_;rw[Array.getElem?_setIfInBounds_ne (by omega)];exact h.block k hk⟩
theorem yC{P:Program}{w w0:World}{mty kt et:TypeId}{d:TypeDesc}{r clock B:Nat}{es:Array MapEntry}{key val:Value}(hm:P.underlying mty=some (.map kt et))(hk:P.underlying kt=some d)(hd:MapKept.IsKey d key)(hb:w.heap[r]?=some (.map es clock))(hf:Instr.findNow d key es.toList 0=some none)(hB:Below B w0 w)(hr:B<=r):
 ∃w',(Instr.mapUpdate mty (.map (some r)) key val).run P w=.ok () w'/\w'.heap[r]?=some (.map (es.push {key:=key,val:=val,born:=clock}) (clock+1))/\Below B w0 w':=
 ⟨zfH w r (.map (es.push {key:=key,val:=val,born:=clock}) (clock+1)),zeX hm hk hd hb hf,zeY hb,zaR hB hr⟩
abbrev five:List Int:=[1,2,3,7,8]
def pa(kind:Int):Bool:=kind==1||kind==2||kind==3||kind==7||kind==8
theorem qN{P:Program}{mty kt et:TypeId}(hm:P.underlying mty=some (.map kt et))(hk:P.underlying kt=some (.int .i64))(hz:∀w,(zeroValue et).run P w=.ok (.bool false) w)(W:World)(kind:Int):
 ∃w1 w2 w3 w4 w5:World,
  (Instr.mapUpdate mty (.map (some W.heap.size)) (.int .i64 1) (.bool true)).run P (W.alloc (.map #[] 0))=.ok () w1/\
  (Instr.mapUpdate mty (.map (some W.heap.size)) (.int .i64 2) (.bool true)).run P w1=.ok () w2/\
  (Instr.mapUpdate mty (.map (some W.heap.size)) (.int .i64 3) (.bool true)).run P w2=.ok () w3/\
  (Instr.mapUpdate mty (.map (some W.heap.size)) (.int .i64 7) (.bool true)).run P w3=.ok () w4/\
  (Instr.mapUpdate mty (.map (some W.heap.size)) (.int .i64 8) (.bool true)).run P w4=.ok () w5/\
  (Instr.lookup mty (.map (some W.heap.size)) (.int .i64 kind) false).run P w5=.ok (.bool (pa kind)) w5/\Below W.heap.size W w5:=by
 have ik:∀x,MapKept.IsKey (.int .i64) (.int .i64 x):=fun x=>by simp[MapKept.IsKey]
 have h0:(W.alloc (.map #[] 0)).heap[W.heap.size]?=some (.map #[] 0):=heap_alloc_new W _;have b0:Below W.heap.size W (W.alloc (.map #[] 0)):=(Below.refl _ _).alloc (Nat.le_refl _) _;obtain⟨w1,r1,h1,b1⟩:=yC (val:=.bool true) hm hk (ik 1) h0 (by rfl) b0 (Nat.le_refl _);obtain⟨w2,r2,h2,b2⟩:=yC (val:=.bool true) hm hk (ik 2) h1 (by rfl) b1 (Nat.le_refl _);obtain⟨w3,r3,h3,b3⟩:=yC (val:=.bool true) hm hk (ik 3) h2 (by rfl) b2 (Nat.le_refl _);obtain⟨w4,r4,h4,b4⟩:=yC (val:=.bool true) hm hk (ik 7) h3 (by rfl) b3 (Nat.le_refl _);obtain⟨w5,r5,h5,b5⟩:=yC (val:=.bool true) hm hk (ik 8) h4 (by rfl) b4 (Nat.le_refl _);refine⟨w1,w2,w3,w4,w5,r1,r2,r3,r4,r5,?_,b5⟩;by_cases e1:kind=1
 . subst e1;exact kA hm hk (ik _) h5 (by rfl)
 by_cases e2:kind=2
 . subst e2;exact kA hm hk (ik _) h5 (by rfl)
 by_cases e3:kind=3
 . subst e3;exact kA hm hk (ik _) h5 (by rfl)
 by_cases e7:kind=7
 . subst e7;exact kA hm hk (ik _) h5 (by rfl)
 by_cases e8:kind=8
 . subst e8;exact kA hm hk (ik _) h5 (by rfl)
 have hK:pa kind=false:=by unfold pa;simp[e1,e2,e3,e7,e8]
 rw[hK];refine zaQ hm hk (ik _) h5 ?_ (hz _);have f1:(kind==1)=false:=by simpa using e1
 have f2:(kind==2)=false:=by simpa using e2
 have f3:(kind==3)=false:=by simpa using e3
 have f7:(kind==7)=false:=by simpa using e7
 have f8:(kind==8)=false:=by simpa using e8
 simp[Instr.findNow,Instr.sameNow,f1,f2,f3,f7,f8]
theorem jH{base e size g n cap:Nat}:∀(vs:List Value) (o:Nat) (w:World) (xs:List Value),w.ownsRow base e size (.slice (some ⟨g,0,none⟩) n cap) n xs->
 ∃xs',(w.setCells g o vs).ownsRow base e size (.slice (some ⟨g,0,none⟩) n cap) n xs'/\xs'.take o=xs.take o/\w.grownBy (w.setCells g o vs) (some g)
 |[],o,w,xs,h=>⟨xs,h,rfl,World.grownBy.refl _ _⟩
 |v::r,o,w,xs,h=>by
  have h1:=World.ownsRow.stored h o v;obtain⟨xs',h2,h3,h4⟩:=jH r (o+1) (w.setCell ⟨g,o,none⟩ v) (xs.set o v) h1.1;refine⟨xs',h2,?_,⟨h4.os.trans h1.2.os,h4.tape.trans h1.2.tape,h4.output.trans h1.2.output,Nat.le_trans h1.2.size h4.size,fun k hk hne=>(h4.block k (Nat.lt_of_lt_of_le hk h1.2.size) hne).trans (h1.2.block k hk hne)⟩⟩;have e:=congrArg (List.take o) h3;rw[List.take_take,List.take_take,Nat.min_eq_left (by omega)]at e;rw[e];apply List.ext_getElem?;intro j;rw[List.getElem?_take,List.getElem?_take]
  split
  . rw[List.getElem?_set_ne (by omega)]
  . rfl
theorem Y1{w:World}{base e size g n cap i:Nat}{xs:List Value}(h:w.ownsRow base e size (.slice (some ⟨g,0,none⟩) n cap) n xs)(hi:i<=n):w.ownsRow base e size (.slice (some ⟨g,0,none⟩) i cap) i (xs.take (i*size)):=by
 refine⟨by rw[List.length_take,h.1];exact Nat.min_eq_left (Nat.mul_le_mul_right _ hi),?_⟩;rcases h.2 with⟨hv,_⟩|⟨g',c',cur,hv,hb,hg,h1,h2,h3,h4⟩
 . cases hv
 . cases hv;refine .inr ⟨g,cap,cur,rfl,hb,hg,by omega,h2,h3,?_⟩;rw[<-h4,List.take_take,Nat.min_eq_left (Nat.mul_le_mul_right _ hi)]
theorem zdv{w:World}{base e size g n cap:Nat}{xs:List Value}(h:w.ownsRow base e size (.slice (some ⟨g,0,none⟩) n cap) n xs){j:Nat}(hj:j<n*size):(w.cell? ⟨g,j,none⟩).isSome=true:=by
 have h1:=World.ownsRow.cellAt (g:=g) (cap:=cap) (n:=n) h j hj;rw[h1,List.getElem?_eq_getElem (by rw[h.1];exact hj)];rfl
theorem VB{P:Program}(w:World)(t e ty:TypeId)(z:Value)(ht:P.underlying t=some (.slice e))(hv:∀w,(zeroValue e).run P w=.ok z w)(size:Nat)(hzs:z.cells.size=size)(h1:∀u∈z.cells.toList,u.oneCell'=true)(b o n c:Nat)(hn:0<n)
 (hc:∀j,j<n*size->(w.cell? ⟨b,o+j,none⟩).isSome=true)(hf:∀j,j<n*size->w.frozen? ⟨b,o+j,none⟩=false):
 ∃vs,(Builtin.clear_ #[t] ty #[.slice (some ⟨b,o,none⟩) n c]).run P w=.ok (.tuple #[]) (w.setCells b o vs):=by
 refine⟨(Builtin.zeroCells z.cells n).toList,?_⟩;have hlen:(Builtin.zeroCells z.cells n).toList.length=n*size:=by
  simp[Builtin.zeroCells,hzs]
 have hst:=run_storeCells_cells (P:=P) b o (Builtin.zeroCells z.cells n).toList 0 w (by rw[hlen];simpa using hc) (by rw[hlen];simpa using hf) (by
  intro v hv';unfold Builtin.zeroCells at hv';rw[Array.toList_map,List.mem_map]at hv';obtain⟨i,hi,rfl⟩:=hv';have hi2:i<n*z.cells.size:=by simpa using hi
  have hz:0<z.cells.size:=by
   rcases Nat.eq_zero_or_pos z.cells.size with h0|h0
   . rw[h0]at hi2;omega
   . exact h0
  have hm:i%z.cells.size<z.cells.size:=Nat.mod_lt _ hz;rw[getElem!_pos z.cells _ hm];exact h1 _ (by simp))
 simp only[Nat.add_zero]at hst;obtain⟨m,rfl⟩:∃m,n=m+1:=⟨n-1,by omega⟩
 simp[Builtin.clear_,run_underlying ht,hv,hst]
theorem QX:yb Tryz.prog 5 (.int .u8 0) 1 1:=yf (by kernel_rfl) rfl (by omega)
def zb2(base:Nat)(xs:List Value)(n:Nat)(w:World)(e:Ending)(w':World):Prop:=
 ∃v,e=.returned v/\w'.ownsRow base 5 1 v n xs/\Below base w w'
theorem zdo(n:Nat)(xs:List Value)(ao:Option Addr)(cap base:Nat)(w:World)(hn:n<=1000000000)(hl:xs.length=n)(hnone:ao=none->n=0/\cap=0)(hR:Hid (Reads w ao xs))(h1:Hid (∀u∈xs,u.oneCell'=true))(hb:base<=w.heap.size):
 Calls Tryz.prog 160 #[.slice ao n cap] w (zb2 base xs n w):=by
 have HL:Hid (xs.length=n*1):=by show _=_;omega
 have HN:=zH hnone;cases ao with
 |none=>
  obtain⟨rfl,rfl⟩:=hnone rfl;have hx:Hid (xs=[]):=List.eq_nil_of_length_eq_zero hl;have heq:=Lib.run_eql_slice_nil (P:=Tryz.prog) w 113 5 none 0 0 0 0 Tryz.underlying113;clear hl hnone;go_enter Tryz.func160,Tryz.ntmps160
  go_wp2_with fail
  go_ret
  refine⟨_,rfl,?_,Below.refl _ _⟩;rw[hx.out];exact World.ownsRow_nil _ _ _ _
 |some a=>
  have heq:=Lib.run_eql_slice_nil (P:=Tryz.prog) w 113 5 (some a) n cap 0 0 Tryz.underlying113;clear hl hnone;have hown:Hid ((w.alloc (.cells #[] 5)).ownsRow base 5 1 (.slice (some ⟨w.heap.size,0,none⟩) 0 0) 0 []):=KT w base 5 [] hb (by unfold maxLen;simp);have hR2:Hid (Reads (w.alloc (.cells #[] 5)) (some a) xs):=hR.out.alloc _;have hbel:Hid (Below base w (w.alloc (.cells #[] 5))):=(Below.refl _ _).alloc hb _;go_enter Tryz.func160,Tryz.ntmps160
  go_wp2_with (at_builtin;go_must (refine Qh rfl (.tmp 5) (.tmp 6) _ rfl base 5 _ 1 1 Tryz.underlying113 QX _ 0 [] (by rfl) hown.out (some a) n cap xs (by rfl) (fun h=>by cases h) HL.out hR2.out h1.out (by unfold maxLen;omega) (by omega) (Nat.le_trans hb hbel.out.size) ?_);intro v2 w2 hown2 hgr2 hb2)
  go_ret
  refine⟨v2,rfl,?_,hbel.out.trans hb2⟩;simpa using hown2
theorem zcE:jX 0=0:=by unfold jX;simp[zbT]
theorem Vc(a:Nat)(w:World)(ha:a<256):
 Calls Tryz.prog 180 #[.int .u8 a] w fun e w'=>(∃E:Int,e=.returned (.tuple #[.int .u8 (jX a:Nat),.int .i64 E]))/\w=w':=by
 by_cases h:a=0
 . subst h;refine(Xo w).mono ?_;rintro e w' ⟨rfl,rfl⟩;exact⟨⟨5,by rw[zcE];rfl⟩,rfl⟩
 . refine(zcx a w ha h).mono ?_;rintro e w' ⟨rfl,rfl⟩;exact⟨⟨0,rfl⟩,rfl⟩
def gfV(f:Nat->GF)(j:Nat):Value:=.int .u8 ((f j).val:Int)
def giV(f:Nat->GF)(j:Nat):Value:=.int .i64 ((f j).val:Int)
theorem wrap_u8(a:Nat)(h:a<256):IntKind.u8.wrap (a:Int)=(a:Int):=by
 simp only[IntKind.wrap,IntKind.signed,IntKind.bits];simp;omega
def zbD(xs ys:Nat->GF)(k n:Nat)(w:World)(e:Ending)(w':World):Prop:=
 ∃g cap,e=.returned (.slice (some ⟨g,0,none⟩) n cap)/\Own w' w.heap.size 5 g n cap (gfV fun j=>lag xs ys k (gf j))/\Below w.heap.size w w'
def QO(xs ys:Nat->GF)(k x i:Nat)(j:Nat):GF:=if j<x then lag xs ys k (gf j) else if j=x then Je xs ys k (gf x) i else 0
theorem J7(xs ys:Nat->GF)(k n:Nat)(ao bo:Option Addr)(cap cap2:Nat)(w:World)(hk:k<=256)(hn:n<=256)(hx:Hid (Reads w ao (zX k (giV xs))))(hy:Hid (Reads w bo (zX k (gfV ys)))):
 Calls Tryz.prog 172 #[.slice ao k cap,.slice bo k cap2,.int .i64 n] w (zbD xs ys k n w):=by
 go_enter Tryz.func172,Tryz.ntmps172
 go_wp2_with (at_make;refine qh rfl _ _ 113 rfl w.heap.size 5 _ 1 Tryz.underlying113 QX rfl _ _ _ _ n (by rfl) (by rfl) rfl rfl (by omega) (by unfold maxLen;omega) (Nat.le_refl _) ?_;intro w1 hown hg1)
 obtain⟨g,hgs⟩:∃g,w.heap.size=g:=⟨_,rfl⟩
 have hb1:Hid (Below w.heap.size w w1):=zQ hg1 (Nat.le_refl _) (by intro k hk;cases hk);have hO0:=hown.congr (f':=gfV (QO xs ys k 0 0)) fun j _=>by
  unfold gfV QO;rw[if_neg (by omega)]
  split<;>rfl
 have hO1:Hid (Own w1 w.heap.size 5 g n n (gfV (QO xs ys k 0 0))):=by
  have e:Own w1 w.heap.size 5 w.heap.size n n (gfV (QO xs ys k 0 0))=Own w1 w.heap.size 5 g n n (gfV (QO xs ys k 0 0)):=by rw[hgs]
  show Own _ _ _ _ _ _ _;rw[<-e];exact hO0
 rw[hgs];clear hown hg1 hO0 hgs;go_loopw [20] (fun vx wr=>∃x:Nat,vx=.int .i64 x/\x<=n/\Hid (Own wr w.heap.size 5 g n n (gfV (QO xs ys k x 0)))/\Hid (Below w.heap.size w wr)) (fun vx _=>n-(intOf vx).toNat)
 case atStart=>exact⟨0,rfl,by omega,hO1,hb1⟩
 case round=>
  obtain⟨x,rfl,hxn,hO,hb⟩:=hrel;by_cases hx1:x<n
  . have hx2:x<256:=by omega
    go_wp2_with fail
    go_loopw [25] (fun vi wi=>∃i:Nat,vi=.int .i64 i/\i<=k/\Hid (Own wi w.heap.size 5 g n n (gfV (QO xs ys k x i)))/\Hid (Below w.heap.size w wi)) (fun vi _=>k-(intOf vi).toNat)
    case atStart=>exact⟨0,rfl,by omega,hO,hb⟩
    case round=>
     obtain⟨i,rfl,hik,hO2,hb2⟩:=hrel;by_cases hi1:i<k
     . obtain⟨b1,o1,rfl,c1⟩:=(hx.out.below hb2.out) i _ (zG (giV xs) hi1);obtain⟨b2,o2,rfl,c2⟩:=(hy.out.below hb2.out) i _ (zG (gfV ys) hi1);obtain⟨p,hp⟩:∃p,(xs i).val=p:=⟨_,rfl⟩
       have hp1:p<256:=by rw[<-hp];exact(xs i).lt
       have hyi:(ys i).val<256:=(ys i).lt;unfold giV at c1;unfold gfV at c2;rw[hp]at c1;have HP:=zH hp;have hX:=zH (hx.out.below hb2.out);clear hp;go_wp2_with fail
       go_loop [11,36] (fun vt vm=>∃m:Nat,vm=.int .i64 m/\m<=k/\∃t:Nat,vt=.int .u8 t/\t<256/\Hid (t=(kV xs (ys i) i (gf x) m).val)) (fun _ vm=>k-(intOf vm).toNat)
       case atStart=>exact⟨0,rfl,by omega,(ys i).val,rfl,hyi,rfl⟩
       case round=>
        obtain⟨m,rfl,hmk,t,rfl,ht,hte⟩:=hrel;by_cases hm1:m<k
        . obtain⟨b3,o3,ha3,c3⟩:=hX.out m _ (zG (giV xs) hm1);injection ha3 with ha3
          injection ha3 with hb3 ho3
          subst hb3 ho3;obtain⟨q,hq⟩:∃q,(xs m).val=q:=⟨_,rfl⟩
          have hq1:q<256:=by rw[<-hq];exact(xs m).lt
          unfold giV at c3;rw[hq]at c3;by_cases hmi:m=i
          . have e1:((m:Int)!=(i:Int))=false:=by simp;omega
            have hnew:Hid (t=(kV xs (ys i) i (gf x) (m+1)).val):=by
             show _=_;rw[kV,if_pos hmi];exact hte.out
            have HM:=zH hmi;clear hmi hq;go_wp2_with fail
            go_round
            case rel=>exact⟨m+1,by go_num,by omega,t,rfl,ht,hnew⟩
            case measure=>simp[intOf];omega
          . have e1:((m:Int)!=(i:Int))=true:=by simp;omega
            obtain⟨pq,hpq⟩:∃pq:Nat,p ^^^ q=pq:=⟨_,rfl⟩
            obtain⟨xq,hxq⟩:∃xq:Nat,x ^^^ q=xq:=⟨_,rfl⟩
            have hpq1:pq<256:=by rw[<-hpq];exact qu hp1 hq1
            have hxq1:xq<256:=by rw[<-hxq];exact qu hx2 hq1
            have e2:bits .xor .i64 (p:Int) (q:Int)=(pq:Int):=by rw[qj p q (by omega) (by omega),hpq]
            have e3:bits .xor .i64 (x:Int) (q:Int)=(xq:Int):=by rw[qj x q (by omega) (by omega),hxq]
            have e4:=wrap_u8 pq hpq1;have e5:=wrap_u8 xq hxq1;have hv1:=Kj hpq1;obtain⟨iv,hiv⟩:∃iv,jX pq=iv:=⟨_,rfl⟩
            rw[hiv]at hv1;obtain⟨pr,hpr⟩:∃pr,zI xq iv=pr:=⟨_,rfl⟩
            have hpr1:pr<256:=by rw[<-hpr];exact yL hxq1
            obtain⟨t2,ht2⟩:∃t2,zI t pr=t2:=⟨_,rfl⟩
            have ht21:t2<256:=by rw[<-ht2];exact yL ht
            have hnew:Hid (t2=(kV xs (ys i) i (gf x) (m+1)).val):=by
             show _=_;rw[kV,if_neg hmi,GF.mul_val,GF.mul_val,GF.inv_val,GF.sub_val,GF.sub_val,ko hx2,hq,HP.out,hpq,hxq,hiv,hpr,<-hte.out,ht2]
            have C1:=zH (Vc pq · hpq1);have C2:=zH (js xq iv · hxq1 hv1);have C3:=zH (js t pr · ht hpr1);rw[hiv]at C1;rw[hpr]at C2;rw[ht2]at C3;clear hmi hq hpq hxq hiv hpr ht2;go_wp2_with (first|(go_at_call 180;refine(C1.out _).mono ?_;rintro e w' ⟨⟨E,rfl⟩,rfl⟩)|(go_at_call 181;with_reducible refine(C2.out _).mono ?_;rintro e w' ⟨rfl,rfl⟩)|(go_at_call 181;refine(C3.out _).mono ?_;rintro e w' ⟨rfl,rfl⟩))
            go_round
            case rel=>exact⟨m+1,by go_num,by omega,t2,rfl,ht21,hnew⟩
            case measure=>simp[intOf];omega
        . have hfin:Hid (t=(kV xs (ys i) i (gf x) k).val):=by
           have:m=k:=by omega
           show _=_;rw[hte.out,this]
          have c4:=hO2.out.cell hx1;have f4:=hO2.out.frozen x;obtain⟨r,hr⟩:∃r,(QO xs ys k x i x).val=r:=⟨_,rfl⟩
          have hr1:r<256:=by rw[<-hr];exact GF.lt _
          unfold gfV at c4;rw[hr]at c4;obtain⟨r2,hr2⟩:∃r2,r ^^^ t=r2:=⟨_,rfl⟩
          have e6:bits .xor .u8 (r:Int) (t:Int)=(r2:Int):=by rw[u8_xor_nat r t hr1 ht,hr2]
          have st:=hO2.out.store x (.int .u8 (r2:Int));have hO3:=zH (st.1.congr (f':=gfV (QO xs ys k x (i+1))) fun j _=>by
           unfold gfV;by_cases hj:j=x
           . subst hj;rw[if_pos rfl,<-hr2,<-hr,hfin.out];unfold QO;rw[if_neg (Nat.lt_irrefl j),if_pos rfl,if_neg (Nat.lt_irrefl j),if_pos rfl];rfl
           . rw[if_neg hj];unfold QO;rw[if_neg hj,if_neg hj])
          have hb3:=zH (hO2.out.belowStore hb2.out (Nat.le_refl _) x (.int .u8 (r2:Int)));clear st hr hr2;go_wp2_with fail
          go_roundw
          case rel=>exact⟨i+1,by go_num,by omega,hO3,hb3⟩
          case measure=>simp[intOf];omega
     . have hO3:=zH (hO2.out.congr (f':=gfV (QO xs ys k (x+1) 0)) fun j _=>by
        have hik2:i=k:=by omega
        unfold gfV QO;by_cases hj:j<x
        . rw[if_pos hj,if_pos (by omega)]
        . rw[if_neg hj];by_cases hj2:j=x
          . subst hj2;rw[if_pos rfl,if_pos (by omega),hik2];rfl
          . rw[if_neg hj2,if_neg (by omega)]
            split<;>rfl)
       go_wp2_with fail
       go_roundw
       case rel=>exact⟨x+1,by go_num,by omega,hO3,hb2⟩
       case measure=>simp[intOf];omega
  . have hfin:Hid (zbD xs ys k n w (.returned (.slice (some ⟨g,0,none⟩) n n)) wr):=⟨g,n,rfl,hO.out.congr fun j hj=>by
     unfold gfV QO;rw[if_pos (by omega)],hb.out⟩
    go_wp2_with fail
    go_ret
    exact hfin.out
theorem Jx(xs d:Nat->GF)(x k:Nat)(ao bo:Option Addr)(cap cap2:Nat)(w:World)(hx1:x<256)(hk:k<=256)(hx:Hid (Reads w ao (zX k (gfV xs))))(hd:Hid (Reads w bo (zX k (gfV d)))):
 Calls Tryz.prog 141 #[.slice ao k cap,.slice bo k cap2,.int .u8 x] w fun e w'=>e=.returned (.int .u8 ((QW xs d (gf x) 0 k).val:Nat))/\∃n,w'=w.drewN n:=by
 go_enter Tryz.func141,Tryz.ntmps141
 go_wp2_with fail
 go_loopw [7,8] (fun vo vi wr=>∃(c o:Nat),vi=.int .i64 ((c:Int)-1)/\c<=k/\vo=.int .u8 o/\o<256/\Hid (o=(QW xs d (gf x) c (k-c)).val)/\∃n,wr=w.drewN n) (fun _ vi _=>(intOf vi+1).toNat)
 case atStart=>exact⟨k,0,rfl,by omega,rfl,by omega,by show _=_;rw[Nat.sub_self];rfl,0,rfl⟩
 case round=>
  obtain⟨c,o,rfl,hck,rfl,ho,hoe,q,rfl⟩:=hrel;by_cases hc0:c=0
  . subst hc0;have hR:Hid (o=(QW xs d (gf x) 0 k).val):=by have:=hoe.out;rwa [Nat.sub_zero]at this
    go_wp2_with fail
    go_ret
    exact⟨by rw[<-hR.out];rfl,_,rfl⟩
  . obtain⟨I,hI⟩:∃I,c=I+1:=⟨c-1,by omega⟩
    have hci:(c:Int)-1=(I:Int):=by omega
    have hIk:I<k:=by omega
    obtain⟨b1,o1,rfl,c1⟩:=hx.out I _ (zG (gfV xs) hIk);obtain⟨b2,o2,rfl,c2⟩:=hd.out I _ (zG (gfV d) hIk);unfold gfV at c1 c2;obtain⟨p,hp⟩:∃p,(xs I).val=p:=⟨_,rfl⟩
    obtain⟨q2,hq⟩:∃q2,(d I).val=q2:=⟨_,rfl⟩
    have p1:p<256:=by rw[<-hp];exact GF.lt _
    have q1:q2<256:=by rw[<-hq];exact GF.lt _
    rw[hp]at c1;rw[hq]at c2;obtain⟨xp,hxp⟩:∃xp:Nat,x ^^^ p=xp:=⟨_,rfl⟩
    have xp1:xp<256:=by rw[<-hxp];exact qu hx1 p1
    have e1:bits .xor .u8 (x:Int) (p:Int)=(xp:Int):=by rw[u8_xor_nat x p hx1 p1,hxp]
    obtain⟨r,hr⟩:∃r,zI o xp=r:=⟨_,rfl⟩
    have r1:r<256:=by rw[<-hr];exact yL ho
    obtain⟨o2',ho2⟩:∃o2:Nat,r ^^^ q2=o2:=⟨_,rfl⟩
    have o21:o2'<256:=by rw[<-ho2];exact qu r1 q1
    have e2:bits .xor .u8 (r:Int) (q2:Int)=(o2':Int):=by rw[u8_xor_nat r q2 r1 q1,ho2]
    have hnew:Hid (o2'=(QW xs d (gf x) I (k-I)).val):=by
     show _=_;rw[show k-I=(k-(I+1))+1 by omega];simp only[QW];rw[GF.add_val,GF.mul_val,GF.sub_val,ko hx1,hp,hq,hxp,<-hI,<-hoe.out,hr,ho2]
    have C:=zH (pv o xp · ho xp1);rw[hr]at C;have i0:(0:Int)<=I:=by omega
    have i1:(I:Int)<k:=by omega
    have HI:=zH hI;have hlt:Hid (I<c):=by show _<_;omega
    clear hp hq hxp hr ho2 hI;go_wp2_with fail
    go_quiet ((go_at_call 161;(first|exact yY C.out|exact zea C.out)))
    go_wp2_with fail
    go_roundw
    case rel=>exact⟨I,o2',rfl,by omega,rfl,o21,hnew,by first|exact dr2 _ _ _|exact⟨_,rfl⟩⟩
    case measure=>have:=hlt.out;simp[intOf];omega
theorem kD(a:Nat)(ha:a<65536):(BitVec.ofInt 16 (a:Int)).toNat=a:=by
 rw[BitVec.ofInt_natCast,BitVec.toNat_ofNat];exact Nat.mod_eq_of_lt (by omega)
theorem jV(a:Nat)(h:a<65536):IntKind.u16.wrap (a:Int)=(a:Int):=by
 simp only[IntKind.wrap,IntKind.signed,IntKind.bits];simp;omega
theorem u16_and_nat(a b:Nat)(ha:a<65536)(hb:b<65536):bits .and .u16 (a:Int) (b:Int)=((a &&& b:Nat):Int):=by
 have hx:a &&& b<2^16:=Nat.and_lt_two_pow _ (by omega);show IntKind.u16.wrap ((BitVec.ofInt 16 (a:Int) &&& BitVec.ofInt 16 (b:Int)).toNat:Int)=_;rw[BitVec.toNat_and,kD a ha,kD b hb];exact jV _ (by omega)
theorem u16_or_nat(a b:Nat)(ha:a<65536)(hb:b<65536):bits .or .u16 (a:Int) (b:Int)=((a ||| b:Nat):Int):=by
 have hx:a ||| b<2^16:=Nat.or_lt_two_pow (by omega) (by omega)
 show IntKind.u16.wrap ((BitVec.ofInt 16 (a:Int) ||| BitVec.ofInt 16 (b:Int)).toNat:Int)=_;rw[BitVec.toNat_or,kD a ha,kD b hb];exact jV _ (by omega)
def jj(zs:List (Value×Value)):List Value:=zs.flatMap fun a=>[a.1,a.2]
theorem XQ(zs:List (Value×Value)):(jj zs).length=zs.length*2:=by
 induction zs with
 |nil=>rfl
 |cons a zs ih=>
  show(a.1::a.2::jj zs).length=_;simp only[List.length_cons,ih];omega
theorem zay(l:List (Value×Value))(k:Nat)(a:Value×Value)(h:l[k]?=some a):(jj l)[k*2]?=some a.1/\(jj l)[k*2+1]?=some a.2:=by
 induction l generalizing k with
 |nil=>simp at h
 |cons b l ih=>
  have e:jj (b::l)=b.1::b.2::jj l:=rfl;rw[e];cases k with
  |zero=>simp at h;subst h;exact⟨rfl,rfl⟩
  |succ k=>
   rw[List.getElem?_cons_succ]at h;obtain⟨h1,h2⟩:=ih k h;refine⟨?_,?_⟩
   . rw[show(k+1)*2=k*2+1+1 by omega,List.getElem?_cons_succ,List.getElem?_cons_succ];exact h1
   . rw[show(k+1)*2+1=k*2+1+1+1 by omega,List.getElem?_cons_succ,List.getElem?_cons_succ];exact h2
def PairsIn(k0 k1:IntKind)(w:World)(ao:Option Addr)(len:Nat)(zs:List (Int×Int)):Prop:=
 zs.length=len/\len<=9223372036854775807/\(∀z∈zs,(Lit.int k0 z.1).wf=true/\(Lit.int k1 z.2).wf=true)/\Reads w ao (jj (zs.map fun z=>(.int k0 z.1,.int k1 z.2)))
def FlagsIn(k1:IntKind)(w:World)(ao:Option Addr)(len:Nat)(zs:List (Bool×Int)):Prop:=
 zs.length=len/\len<=9223372036854775807/\(∀z∈zs,(Lit.int k1 z.2).wf=true)/\Reads w ao (jj (zs.map fun z=>(.bool z.1,.int k1 z.2)))
theorem PairsIn.below{k0 k1:IntKind}{w w':World}{ao:Option Addr}{n:Nat}{zs:List (Int×Int)}(h:PairsIn k0 k1 w ao n zs)(hb:Below w.heap.size w w'):PairsIn k0 k1 w' ao n zs:=⟨h.1,h.2.1,h.2.2.1,h.2.2.2.below hb⟩
theorem FlagsIn.below{k1:IntKind}{w w':World}{ao:Option Addr}{n:Nat}{zs:List (Bool×Int)}(h:FlagsIn k1 w ao n zs)(hb:Below w.heap.size w w'):FlagsIn k1 w' ao n zs:=⟨h.1,h.2.1,h.2.2.1,h.2.2.2.below hb⟩
end Go.Proofs.YtmgfbmkfomebcaaGreatDoor
