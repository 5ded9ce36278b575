/- Contracts of functions, joined. No claim is stated here. -/
import Derived.Test.YtlcgclmobfdbcaaGreatFb0
import Derived.Test.YtlcgclmobfdbcaaGreatFb3
set_option linter.unusedVariables false
set_option linter.unusedSimpArgs false
namespace Go.Proofs.YtlcgclmobfdbcaaGreat.Cl
open Go
def Off (n lo hi:Nat) (v:Sl):Prop:=∀o,v.o=some o→n≤o∧(o<lo∨hi≤o)
def Btw (lo hi:Nat) (v:Sl):Prop:=∀o,v.o=some o→lo≤o∧o<hi
def PlV (lo hi:Nat) (g:H) (s:Sl) (P:List (List Int)) (ws:List Sl):Prop:=ws.length=P.length∧Ow g s 1 (ws.map .sl)∧Btw lo hi s∧(∀(i:Nat) v l,ws[i]? = some v→P[i]? = some l→Ow g v 1 (ic l)∧Btw lo hi v)∧
 (∀(i j:Nat) v w,i≠j→ws[i]? = some v→ws[j]? = some w→∀o,v.o=some o→w.o≠some o)∧∀(i:Nat) v,ws[i]? = some v→∀o,v.o=some o→s.o≠some o
def PlN (lo hi:Nat) (g:H) (s:Sl) (P:List (List Int)):Prop:=∃ws:List Sl,PlV lo hi g s P ws
def BoN (n lo hi:Nat) (g:H) (s:Sl) (B:List (List Int)):Prop:=∃vs:List Sl,vs.length=B.length∧Ow g s 1 (vs.map .sl)∧Off n lo hi s∧∀(i:Nat) v l,vs[i]? = some v→B[i]? = some l→Rd g v 1 (ic l)∧Off n lo hi v∧∀o,v.o=some o→s.o≠some o
section
variable {n lo hi:Nat} {g g':H} {s:Sl} {P B:List (List Int)}
theorem PlN.of (r:NewSS lo g s P) (h:g.length=hi):PlN lo hi g s P:=by
 obtain ⟨vs,a,b,c,d,e,f⟩:=r
 exact ⟨vs,a,b,fun o q=>⟨c o q,by have:=b.lt q;omega⟩,fun i v l x y=>⟨(d i v l x y).1,fun o q=>⟨(d i v l x y).2 o q,by have:=(d i v l x y).1.lt q;omega⟩⟩,e,f⟩
theorem PlV.chg {ws:List Sl} {Q:Nat→Prop} (r:PlV lo hi g s P ws) (c:Chg Q g g') (hQ:∀i,lo≤i→i<hi→¬Q i):PlV lo hi g' s P ws:=by
 obtain ⟨a,b,f,d,e,k⟩:=r
 exact ⟨a,b.chg c fun i q=>hQ i (f i q).1 (f i q).2,f,fun i v l x y=>⟨(d i v l x y).1.chg c fun j q=>hQ j ((d i v l x y).2 j q).1 ((d i v l x y).2 j q).2,(d i v l x y).2⟩,e,k⟩
theorem PlN.chg {Q:Nat→Prop} (r:PlN lo hi g s P) (c:Chg Q g g') (hQ:∀i,lo≤i→i<hi→¬Q i):PlN lo hi g' s P:=by
 obtain ⟨vs,r⟩:=r
 exact ⟨vs,r.chg c hQ⟩
theorem PlV.put {ws:List Sl} (r:PlV lo hi g s P ws) {i:Nat} {v:Sl} {l:List Int} (hv:ws[i]? = some v) (hl:P[i]? = some l) {k:Int} (k0:0≤k) (hk:k<l.length) (y:Int) {K:H→Prop}
  (hK:∀g',PlV lo hi g' s (P.set i (l.set k.toNat y)) ws→But v.o g g'→g'.length=g.length→(∀j,v.o=some j→lo≤j∧j<hi)→K g'):ixS v 1 k fun p=>Cl.st1 p (.int .i64 y) g K:=by
 obtain ⟨a,b,f,d,e,m⟩:=r
 obtain ⟨o1,f1⟩:=d i v l hv hl
 have hvl:=o1.rd.ilen
 refine o1.stI k0 (by omega) _ fun g' o' b' l'=>hK g' ⟨by simpa using a,b.but b' ?_,f,fun j w q x z=>?_,e,m⟩ b' l' f1
 ·cases hq:v.o with
  | none=>exact .inr rfl
  | some j=>exact .inl fun e=>m i v hv j hq e.symm
 ·rw [List.getElem?_set] at z
  by_cases hij:i=j
  ·subst hij
   rw [if_pos rfl] at z
   rw [if_pos (List.getElem?_eq_some_iff.1 hl).1] at z
   obtain rfl:=Option.some.inj z
   rw [hv] at x
   obtain rfl:=Option.some.inj x
   exact ⟨o',f1⟩
  ·rw [if_neg hij] at z
   obtain ⟨p,t⟩:=d j w q x z
   refine ⟨p.but b' ?_,t⟩
   cases hq:v.o with
   | none=>exact .inr rfl
   | some n=>exact .inl fun e'=>e i j v w hij hv x n hq e'.symm
theorem PlN.sf {m:Nat} (r:PlN lo hi g s P) (h:m≤lo):RdSF m g s P:=by
 obtain ⟨vs,a,b,f,d,_⟩:=r
 exact ⟨vs,a,b.rd,fun o q=>by have:=(f o q).1;omega,fun i v l x y=>⟨(d i v l x y).1.rd,fun o q=>by have:=((d i v l x y).2 o q).1;omega⟩⟩
theorem PlN.len (r:PlN lo hi g s P):s.len=P.length:=by
 obtain ⟨vs,a,b,_⟩:=r
 have:=b.len
 rw [List.length_map] at this
 omega
theorem zLM {m:Nat} {vs:List Sl} (a:vs.length=P.length) (b:Ow g s 1 (vs.map .sl)) (f:Fr m s) (d:∀(i:Nat) v l,vs[i]? = some v→P[i]? = some l→Rd g v 1 (ic l)∧Fr m v∧∀o,v.o=some o→s.o≠some o) (hm:m≤g.length) (hP:P.length≤100) {K:Sl→H→Prop}
  (hK:∀s' g',RdSF m g' s' (P++[[]])→Chg (fun i=>s.o=some i∨g.length≤i) g g'→K s' g'):
  newS 0 1 [] g fun v g2=>newS 1 1 [.sl v] g2 fun t g3=>app s t 1 g3 K:=by
 refine zj (by rfl) fun v g2 ov lv vo e2=>?_
 have y2:Ext g g2:=by rw [e2];exact Ext.app _ _
 refine zj (by rfl) fun t g3 ot lt to e3=>?_
 have y3:Ext g2 g3:=by rw [e3];exact Ext.app _ _
 have y23:=y2.trans y3
 have hlen:=b.len
 rw [List.length_map] at hlen
 refine yk (by omega) (b.ext y23) ot.rd (by rw [lt];unfold lim;omega) fun s' g4 os' ls' b4 k1 k2=>hK _ _ ⟨vs++[v],by simp [a],?_,fun i e=>?_,fun i w l p q=>?_⟩ ((y23.chg _).trans (b4.chg fun i e=> .inl e))
 ·have:=os'.rd
  simpa using this
 ·cases hq:s.o with
  | none=>have:=k2 hq i e;have:=y23.len;omega
  | some q=>rw [k1 q hq] at e;exact f i (by rw [hq];exact e)
 ·rw [List.getElem?_append] at p q
  rw [a] at p
  split at p
  ·next hlt=>
   rw [if_pos hlt] at q
   obtain ⟨r,x,t⟩:=d i w l p q
   refine ⟨(r.ext y23).but b4 ?_,x⟩
   cases hq:s.o with
   | none=>exact .inr rfl
   | some q=>exact .inl fun e=>t q e.symm hq
  ·next hge=>
   rw [if_neg hge] at q
   have hi1:=(List.getElem?_eq_some_iff.1 q).1
   have hi0:i-P.length=0:=by simp at hi1;omega
   rw [hi0] at p q
   obtain rfl:=Option.some.inj p
   obtain rfl:=Option.some.inj q
   exact ⟨Rd.empty 1 lv,fun o e=>by rw [vo] at e;have:=Option.some.inj e;omega⟩
theorem BoN.chg {Q:Nat→Prop} (r:BoN n lo hi g s B) (c:Chg Q g g') (hQ:∀i,n≤i→(i<lo∨hi≤i)→i<g.length→¬Q i):BoN n lo hi g' s B:=by
 obtain ⟨vs,a,b,f,d⟩:=r
 refine ⟨vs,a,b.chg c fun i q=>hQ i (f i q).1 (f i q).2 (b.lt q),f,fun i v l x y=>?_⟩
 obtain ⟨p,q,t⟩:=d i v l x y
 refine ⟨?_,q,t⟩
 refine ⟨p.len,p.at_.imp id fun ⟨x,y,e⟩=>⟨x,y,c.range e fun i hi=>?_⟩⟩
 obtain ⟨j,xs,hj,hc,_,_⟩:=zL e
 have:=yC hc
 rw [hi] at hj
 have:=Option.some.inj hj
 exact hQ i (q i hi).1 (q i hi).2 (by omega)
theorem BoN.sf (r:BoN n lo hi g s B):RdSF n g s B:=by
 obtain ⟨vs,a,b,f,d⟩:=r
 exact ⟨vs,a,b.rd,fun o q=>(f o q).1,fun i v l x y=>⟨(d i v l x y).1,fun o q=>((d i v l x y).2.1 o q).1⟩⟩
theorem BoN.len (r:BoN n lo hi g s B):s.len=B.length:=by
 obtain ⟨vs,a,b,_⟩:=r
 have:=b.len
 rw [List.length_map] at this
 omega
theorem BoN.of (r:NewSS n g s B) (h:hi≤n):BoN n lo hi g s B:=by
 obtain ⟨vs,a,b,c,d,e,f⟩:=r
 exact ⟨vs,a,b,fun o q=>⟨c o q,.inr (by have:=c o q;omega)⟩,fun i v l x y=>⟨(d i v l x y).1.rd,fun o q=>⟨(d i v l x y).2 o q,.inr (by have:=(d i v l x y).2 o q;omega)⟩,fun o q=>f i v x o q⟩⟩
theorem BoN.le {m:Nat} (r:BoN n lo hi g s B) (h:m≤n):BoN m lo hi g s B:=by
 obtain ⟨vs,a,b,f,d⟩:=r
 exact ⟨vs,a,b,fun o q=>⟨by have:=(f o q).1;omega,(f o q).2⟩,fun i v l x y=>⟨(d i v l x y).1,fun o q=>⟨by have:=((d i v l x y).2.1 o q).1;omega,((d i v l x y).2.1 o q).2⟩,(d i v l x y).2.2⟩⟩
theorem BoN.set (r:BoN n lo hi g s B) {k:Int} (k0:0≤k) (hk:k<B.length) {v:Sl} {l:List Int} (rv:Rd g v 1 (ic l)) (ov:Off n lo hi v) (hv:∀o,v.o=some o→s.o≠some o) {K:H→Prop}
  (hK:∀g',BoN n lo hi g' s (B.set k.toNat l)→But s.o g g'→g'.length=g.length→K g'):ixS s 1 k fun p=>Cl.st1 p (.sl v) g K:=by
 have hl:=r.len
 obtain ⟨vs,a,b,f,d⟩:=r
 refine b.stC k0 (by omega) _ fun g' o' b' l'=>hK g' ⟨vs.set k.toNat v,by simpa using a,by rw [List.map_set];exact o',f,fun i w m x y=>?_⟩ b' l'
 have keep:∀{w:Sl} {m:List Int},Rd g w 1 (ic m)→(∀o,w.o=some o→s.o≠some o)→Rd g' w 1 (ic m):=fun {w m} r h=>by
  refine r.but b' ?_
  cases hq:s.o with
  | none=>exact .inr rfl
  | some q=>exact .inl fun e=>h q e.symm hq
 rw [List.getElem?_set] at x y
 by_cases e:k.toNat=i
 ·rw [if_pos e] at x y
  rw [if_pos (by omega)] at x y
  obtain rfl:=Option.some.inj x
  obtain rfl:=Option.some.inj y
  exact ⟨keep rv hv,ov,hv⟩
 ·rw [if_neg e] at x y
  obtain ⟨p,q,t⟩:=d i w m x y
  exact ⟨keep p t,q,t⟩
end
structure Ctx (h:H) (o:Nat) (u:Sl) (c:Int) (g:H):Prop where
 src:Src g o
 set:Obj g h.length (SetC c u)
 ch:Chg (fun i=>i=o∨h.length≤i) h g
def SmL (P:List (List Int)):Prop:=P.length≤100∧∀l∈P,l.length≤100
def DrPB (h:H) (o:Nat) (v:AVal) (h':H):Prop:=∃w bw P B,v = .tuple [.sl w,.sl bw]∧RdSF h.length h' w P∧RdSF h.length h' bw B∧SmL P∧SmL B∧Src h' o∧Chg (fun i=>i=o) h h'
section
variable {h g:H} {o:Nat} {u s8 s9:Sl} {c:Int} {ts:List Tile} {lo hi:Nat} {P B:List (List Int)}
theorem Ctx.step {g':H} (x:Ctx h o u c g) (ho:o<h.length) (r:Src g' o) (cg:Chg (fun i=>i=o∨h.length+1≤i) g g'):Ctx h o u c g':=
 ⟨r,x.set.chg cg (by omega),x.ch.trans (cg.to fun i _ e=>e.imp id fun e=>by omega)⟩
theorem Ctx.rd (x:Ctx h o u c g) (ru:Rd h u 4 (tcs ts)) (fu:∀i,u.o=some i→i≠o):Rd g u 4 (tcs ts):=ru.keep (P:=fun i=>i=o) x.ch fu
theorem Ctx.out (x:Ctx h o u c g):Chg (fun i=>i=o) h g:=x.ch.to fun i hi e=>by omega
theorem zpS (r:Src g o) (hw:Obj g hi (SetC c u)) (ho:hi≠o) (hio:o<g.length) {n:Int} (hn:0≤n∧n≤100):callS SP zrF [.ptr ⟨some o,3,0⟩,.agg (SetC c u),i64 n] g fun v g'=>∃l,Ow g' v 1 (ic l)∧Fr g.length v∧l.length=n.toNat∧Src g' o∧Chg (fun i=>i=o) g g':=by
 apply zxy
 unfold W4
 refine zk fun h1 a1 x1 n1=>?_
 refine zj (by rfl) fun s h2 os ls so e2=>?_
 have x2:Ext h1 h2:=by rw [e2];exact Ext.app _ _
 have X:=x1.trans x2
 refine zoi _ _ _ _ _ (fun s i q=>∃(z:Nat) (l:List Int),i=z∧z≤n.toNat∧l.length=z∧Ow q s 1 (ic l)∧Fr h1.length s∧Src q o∧Chg (fun i=>i=o∨h1.length≤i) h1 q) (fun _ i _=>(n-i).toNat) ?_ _ _
  ⟨0,[],rfl,by omega,rfl,os,fun i e=>(by rw [so] at e;have:=Option.some.inj e;omega),r.ext X,x2.chg _⟩
 rintro X0 s _ q ⟨z,l,rfl,hz,hl,os,fs,rq,cq⟩ hX
 have hcq:=cq.1
 unfold zke
 refine zc (fun hi2=>?_) (fun hi2=>?_)
 ·refine zh ((a1.chg cq (by omega)).ldI rfl rfl ?_)
  refine (zH rq _).to ?_
  rintro y q1 ⟨_,rq1,b1,l1⟩
  have os1:=os.but b1 (.inl fun e=>by have:=fs _ e.symm;omega)
  refine zqN os1 (by unfold lim;omega) fun s' q2 os2 b2 hs2 l2=>?_
  rw [zf (n:=(z:Int)+1) (by omega) (by omega)]
  refine hX _ _ _ ⟨z+1,_,by push_cast;rfl,by omega,by simp [hl],os2,fs.push (h:=q1) (by omega) hs2,rq1.but b2 fun i e=>by have:=fs i e;omega,(cq.trans (rq.self b1)).trans (b2.chg fun i e=> .inr (fs i e))⟩ (by omega)
 ·unfold zxA
  refine ⟨s,rfl,l,os,fs.le (by omega),by omega,rq,?_⟩
  exact ((x1.chg (fun i=>i=o∨g.length≤i)).trans (cq.to fun i _ e=>e.imp id fun e=>by omega)).to fun i hi2 e=>by omega
theorem wG (ho:o<h.length) (x:Ctx h o u c g) (rp:RdSF h.length g s8 P) (rb:RdSF h.length g s9 B) (hP:SmL P) (hB:SmL B):xw SP (DrPB h o) s8 s9 g:=by
 unfold xw
 exact ⟨s8,s9,P,B,rfl,rp,rb,hP,hB,x.src,x.out⟩
theorem znj (ho:o<h.length) (x:Ctx h o u c g) (hlo:h.length+1≤lo) (hlh:lo≤hi) (pl:PlN lo hi g s8 P) (bo:BoN (h.length+1) lo hi g s9 B) (hhi:hi≤g.length) (hP:1≤P.length∧P.length≤10) (hPl:∀l∈P,1≤l.length∧l.length≤10) (hB:B.length=4) (hBl:∀l∈B,l.length≤10):
  xN SP (DrPB h o) ⟨some o,3,0⟩ ⟨some h.length,2,0⟩ s8 s9 g:=by
 have smP:SmL P:=⟨by omega,fun l hl=>by have:=hPl l hl;omega⟩
 have smB:SmL B:=⟨by omega,fun l hl=>by have:=hBl l hl;omega⟩
 have hgl:h.length+1≤g.length:=by have:=x.set.lt;omega
 unfold xN
 refine (zH x.src 24).to ?_
 rintro z g1 ⟨_,r1,b1,l1⟩
 have x1:=x.step ho r1 (x.src.self b1)
 have cb:Chg (fun i=>i=o) g g1:=b1.chg fun i e=>(Option.some.inj e).symm
 have pl1:=pl.chg cb fun i a b=>by omega
 have bo1:=bo.chg cb fun i a b _=>by omega
 refine zp (fun _=>?_) (fun _=>?_)
 ·
  obtain ⟨vs,a,b,f,d⟩:=bo1
  refine zLM (m:=h.length+1) a b (fun i e=>(f i e).1) (fun i v l x y=>⟨(d i v l x y).1,fun j e=>((d i v l x y).2.1 j e).1,(d i v l x y).2.2⟩) (by omega) (by omega) fun s' g' rs cs=>?_
  have l1':g1.length=g.length:=l1
  have fo:∀i,s9.o=some i∨g1.length≤i→h.length+1≤i:=fun i e=>e.elim (fun e=>(f i e).1) fun e=>by omega
  have x4:Ctx h o u c g':=x1.step ho (r1.chg cs fun i hi e=>by have:=fo i e;omega) (cs.to fun i _ e=> .inr (fo i e))
  refine wG ho x4 ((pl1.chg cs fun i a b e=>e.elim (fun e=>by have:=(f i e).2;omega) fun e=>by omega).sf (by omega)) (rs.le (by omega)) smP ⟨by simp;omega,fun l hl=>?_⟩
  rcases List.mem_append.1 hl with hl | hl
  ·exact smB.2 l hl
  ·rw [List.mem_singleton] at hl;subst hl;simp
 refine zp (fun _=>?_) (fun _=>?_)
 ·
  refine qf fun g2 y2 m2=>?_
  have x2:=x1.step ho (r1.ext y2) (y2.chg _)
  refine (zH x2.src 4).to ?_
  rintro k g3 ⟨hk,r3,b3,l3⟩
  have x3:=x2.step ho r3 (x2.src.self b3)
  have hk1:=hk.1;have hk2:=hk.2.1 (by omega)
  refine zh (x3.set.ldI rfl rfl ?_)
  refine ⟨(x2.set.cellE (n:=2) rfl).trans (x3.set.cellE (n:=2) rfl).symm,?_⟩
  refine wH (by omega) (by rfl) fun t g4 ot lt to b4 l4=>?_
  have hy2:=y2.len
  have x4:=x3.step ho (r3.but b4 fun i e=>by have:=Option.some.inj e;omega) (b4.chg fun i e=> .inr (by have:=Option.some.inj e;omega))
  refine (zlw x4.src (l:=[-1,c,0]) ot.rd (by rw [to];exact zq (by omega)) (by simp)).to ?_
  rintro y g5 ⟨_,r5,b5,l5⟩
  have x5:=x4.step ho r5 (x4.src.self b5)
  refine wH (by omega) (by rfl) fun v g6 ov lv vo b6 l6=>?_
  have x6:=x5.step ho (r5.but b6 fun i e=>by have:=Option.some.inj e;omega) (b6.chg fun i e=> .inr (by have:=Option.some.inj e;omega))
  have cAll:Chg (fun i=>i=o∨g1.length≤i) g1 g6:=((y2.chg _).trans (b3.chg fun i e=> .inl (Option.some.inj e).symm)).trans (((b4.chg fun i e=> .inr (by have:=Option.some.inj e;omega)).trans (b5.chg fun i e=> .inl (Option.some.inj e).symm)).trans (b6.chg fun i e=> .inr (by have:=Option.some.inj e;omega)))
  have pl6:=pl1.chg cAll fun i a b e=>by omega
  have bo6:=bo1.chg cAll fun i a b d e=>by omega
  have hs9:∀i,s9.o=some i→i<g1.length∧(h.length+1≤i∧(i<lo∨hi≤i)):=fun i e=>by
   obtain ⟨vs,a,b,f,d⟩:=bo1
   exact ⟨b.lt e,f i e⟩
  refine bo6.set hk1 (by omega) (l:=[y]) ov.rd (fun i e=>by rw [vo] at e;have:=Option.some.inj e;omega) (fun i e e2=>by rw [vo] at e;have:=Option.some.inj e;have:=(hs9 i e2).1;omega) fun g7 bo7 b7 l7=>?_
  have x7:=x6.step ho (x6.src.but b7 fun i e=>by have:=(hs9 i e).2.1;omega) (b7.chg fun i e=> .inr (hs9 i e).2.1)
  refine wG ho x7 ((pl6.chg (b7.chg (P:=fun i=>s9.o=some i) fun i e=>e) fun i a b e=>by have:=(hs9 i e).2.2;omega).sf (by omega)) (bo7.sf.le (by omega)) smP ⟨by rw [List.length_set];omega,fun l hl=>?_⟩
  rcases List.mem_or_eq_of_mem_set hl with hl | hl
  ·exact smB.2 l hl
  ·subst hl;simp
 refine zp (fun _=>?_) (fun _=>?_)
 ·
  have hpl:=pl1.len
  obtain ⟨ws,pv⟩:=pl1
  have pv':=pv
  obtain ⟨a,b,f,d,e,k⟩:=pv'
  have hv0:ws[0]? = some ws[0]:=List.getElem?_eq_getElem (by omega)
  have hr0:P[0]? = some P[0]:=List.getElem?_eq_getElem (by omega)
  refine b.rd.ldS (by omega) (by omega) fun v hv'=>?_
  rw [show (0:Int).toNat=0 from rfl,hv0] at hv'
  obtain rfl:=Option.some.inj hv'
  refine zh (x1.set.ldS rfl rfl ?_)
  refine vF r1 (l:=[-2,(u.len:Int)]) rfl rfl (by simp) fun y g2 hy rg2 c2=>?_
  have x2:=x1.step ho rg2 (c2.to fun i _ e=> .inl e)
  have hl0:=hPl P[0] (List.getElem_mem _)
  refine (pv.chg c2 fun i a b e=>by omega).put hv0 hr0 (by omega) (by omega) _ fun g3 pl3 b3 l3 hf0=>?_
  have cc:Chg (fun i=>ws[0].o=some i) g2 g3:=b3.chg fun i e=>e
  have x3:=x2.step ho (rg2.but b3 fun i e=>by have:=(hf0 i e).1;omega) (cc.to fun i _ e=> .inr (by have:=(hf0 i e).1;omega))
  have bo3:=(bo1.chg c2 fun i a b _ e=>by omega).chg cc fun i a b _ e=>by have:=hf0 i e;omega
  refine wG ho x3 (PlN.sf ⟨ws,pl3⟩ (by omega)) (bo3.sf.le (by omega)) ⟨by rw [List.length_set];omega,fun l hl=>?_⟩ smB
  rcases List.mem_or_eq_of_mem_set hl with hl | hl
  ·exact smP.2 l hl
  ·subst hl;rw [List.length_set];omega
 refine zp (fun _=>?_) (fun _=>?_)
 ·
  obtain ⟨ws,a,b,f,d,e,k⟩:=pl1
  refine zLM (m:=h.length+1) a b (fun i e=>by have:=(f i e).1;omega) (fun i v l x y=>⟨(d i v l x y).1.rd,fun j q=>by have:=((d i v l x y).2 j q).1;omega,fun o q=>k i v x o q⟩) (by omega) (by omega) fun s' g' rs cs=>?_
  have l1':g1.length=g.length:=l1
  have fo:∀i,s8.o=some i∨g1.length≤i→h.length+1≤i:=fun i e=>e.elim (fun e=>by have:=(f i e).1;omega) fun e=>by omega
  have x4:Ctx h o u c g':=x1.step ho (r1.chg cs fun i hi e=>by have:=fo i e;omega) (cs.to fun i _ e=> .inr (fo i e))
  refine wG ho x4 (rs.le (by omega)) ((bo1.chg cs fun i a b c e=>e.elim (fun e=>by have:=f i e;omega) fun e=>by omega).sf.le (by omega)) ⟨by simp;omega,fun l hl=>?_⟩ smB
  rcases List.mem_append.1 hl with hl | hl
  ·exact smP.2 l hl
  ·rw [List.mem_singleton] at hl;subst hl;simp
 ·exact wG ho x1 (pl1.sf (by omega)) (bo1.sf.le (by omega)) smP smB
end
end Go.Proofs.YtlcgclmobfdbcaaGreat.Cl
set_option linter.unusedVariables false
set_option linter.unusedSimpArgs false
namespace Go.Proofs.YtlcgclmobfdbcaaGreat.Cl
open Go
def Q1 (g:H) (n:Nat) (s:Sl) (z:Nat):Prop:=s.o=some n∧∃l:List Int,l.length=z∧Ow g s 1 (ic l)
def RdF2 (n m:Nat) (g:H) (s:Sl) (B:List (List Int)):Prop:=∃vs:List Sl,vs.length=B.length∧Rd g s 1 (vs.map .sl)∧Btw n m s∧∀(i:Nat) v l,vs[i]? = some v→B[i]? = some l→Rd g v 1 (ic l)∧Btw n m v
section
variable {g g':H} {n m z:Nat} {s:Sl}
theorem Q1.ext (r:Q1 g n s z) (e:Ext g g'):Q1 g' n s z:=by
 obtain ⟨a,l,b,o⟩:=r
 exact ⟨a,l,b,o.ext e⟩
theorem Q1.but (r:Q1 g n s z) (b:But (some m) g g') (h:m≠n):Q1 g' n s z:=by
 obtain ⟨e,l,a,o⟩:=r
 exact ⟨e,l,a,o.but b (.inl (by rw [e];intro q;exact h (Option.some.inj q)))⟩
theorem Q1.push (r:Q1 g n s z) (hz:z≤100) {x:Int} {K:Sl→H→Prop} (hk:∀s' g',Q1 g' n s' (z+1)→But (some n) g g'→K s' g'):newS 1 1 [.int .i64 x] g fun t g1=>app s t 1 g1 K:=by
 obtain ⟨e,l,a,o⟩:=r
 exact zLL o (by unfold lim;omega) fun s' g' o' b k=>hk s' g' ⟨k n e,l++[x],by simp [a],o'⟩ (by rw [←e];exact b)
theorem Rd.chgL {Q:Nat→Prop} {k:Nat} {cs:List AVal} (r:Rd g s k cs) (c:Chg Q g g') (hn:∀i,s.o=some i→i<g.length→¬Q i):Rd g' s k cs:=
 ⟨r.len,r.at_.imp id fun ⟨x,y,e⟩=>⟨x,y,c.range e fun i hi=>by
  obtain ⟨j,xs,hj,hc,_,_⟩:=zL e
  have:=yC hc
  rw [hi] at hj
  have:=Option.some.inj hj
  exact hn i hi (by omega)⟩⟩
theorem RdF2.chg {Q:Nat→Prop} {B:List (List Int)} (r:RdF2 n m g s B) (c:Chg Q g g') (hQ:∀i,n≤i→i<m→¬Q i):RdF2 n m g' s B:=by
 obtain ⟨vs,a,b,f,d⟩:=r
 exact ⟨vs,a,b.chgL c fun i e _=>hQ i (f i e).1 (f i e).2,f,fun i v l x y=>⟨(d i v l x y).1.chgL c fun j e _=>hQ j ((d i v l x y).2 j e).1 ((d i v l x y).2 j e).2,(d i v l x y).2⟩⟩
end
section
variable {h:H} {o:Nat} {u q:Sl} {c:Int} {ts:List Tile} {rows:List (List Int)}
theorem zAS (r:Rd h u 4 (tcs ts)) (rr:RdSS h q rows) (hN:Nums ts.length rows):callS SP zrE [.agg (SetC c u),.sl q] h fun v h'=>∃B,RdF2 h.length h'.length h' v B∧B.length=4∧(∀l∈B,l.length≤8)∧Ext h h':=by
 have hT:=hN.2
 have hq:=rr.len
 obtain ⟨⟨hT1,hT2⟩,hT3⟩:=hT
 apply zxs
 unfold WZ
 refine zk fun h1 a1 x1 n1=>?_
 refine zj (by rfl) fun a g1 oa la ao e1=>?_
 have y1:Ext h1 g1:=by rw [e1];exact Ext.app _ _
 have m1:g1.length=h1.length+1:=by rw [e1];simp
 refine zj (by rfl) fun b g2 ob lb bo e2=>?_
 have y2:Ext g1 g2:=by rw [e2];exact Ext.app _ _
 have m2:g2.length=g1.length+1:=by rw [e2];simp
 refine zj (by rfl) fun d g3 od ld do_ e3=>?_
 have y3:Ext g2 g3:=by rw [e3];exact Ext.app _ _
 have m3:g3.length=g2.length+1:=by rw [e3];simp
 refine zj (by rfl) fun e g4 oe le eo e4=>?_
 have y4:Ext g3 g4:=by rw [e4];exact Ext.app _ _
 have m4:g4.length=g3.length+1:=by rw [e4];simp
 have X:=((y1.trans y2).trans y3).trans y4
 have q1:Q1 g4 h1.length a 0:=⟨ao,[],rfl,oa.ext ((y2.trans y3).trans y4)⟩
 have q2:Q1 g4 (h1.length+1) b 0:=⟨by rw [bo,m1],[],rfl,ob.ext (y3.trans y4)⟩
 have q3:Q1 g4 (h1.length+2) d 0:=⟨by rw [do_,m2,m1],[],rfl,od.ext y4⟩
 have q4:Q1 g4 (h1.length+3) e 0:=⟨by rw [eo,m3,m2,m1],[],rfl,oe⟩
 refine (rr.ext (x1.trans X)).ldG (by omega) (by omega) fun v rv lv=>?_
 have hw:=hT3 0 (by omega)
 rw [show (0:Int).toNat=0 from rfl] at lv
 refine zof _ _ _ _ _ _ _ _ (fun s5 s7 i g=>∃z:Nat,i=z∧z≤rows.length∧Q1 g h1.length s5 z∧Q1 g (h1.length+2) s7 z∧Q1 g (h1.length+1) b 0∧Q1 g (h1.length+3) e 0∧Ext h1 g) (fun _ _ i _=>(rows.length-i).toNat) ?_ _ _ _ ⟨0,rfl,by omega,q1,q3,q2,q4,X⟩
 rintro X0 s5 s7 _ g ⟨z,rfl,hz,p1,p3,p2,p4,x⟩ hX
 unfold zkd
 refine zc (fun hi=>?_) (fun hi=>?_)
 ·have hz':=hT3 z (by omega)
  have XX:=x1.trans x
  refine Yd (a1.ext x) (r.ext XX) (rr.ext XX) (by omega) (by omega) (by omega) (by simp only [Int.toNat_natCast];omega) (hN.1 _ _ (by simp only [Int.toNat_natCast];omega) (by simp only [Int.toNat_natCast];omega)) (by omega) (by omega) ?_
  refine p1.push (by omega) fun s5' g5 p1' b5=>?_
  have x5:=x.but_ b5 (zi (Nat.le_refl _))
  have XX5:=x1.trans x5
  rw [zf (n:=(v.len:Int)-1) (by omega) (by omega)]
  refine Yd (a1.ext x5) (r.ext XX5) (rr.ext XX5) (by omega) (by omega) (by omega) (by simp only [Int.toNat_natCast];omega) (hN.1 _ _ (by simp only [Int.toNat_natCast];omega) (by simp only [Int.toNat_natCast];omega)) (by omega) (by omega) ?_
  refine (p3.but b5 (by omega)).push (by omega) fun s7' g6 p3' b6=>?_
  rw [zf (n:=(z:Int)+1) (by omega) (by omega)]
  exact hX _ _ _ _ ⟨z+1,by push_cast;rfl,by omega,p1'.but b6 (by omega),p3',(p2.but b5 (by omega)).but b6 (by omega),(p4.but b5 (by omega)).but b6 (by omega),x5.but_ b6 (zi (by omega))⟩ (by omega)
 ·unfold zxw
  refine zoe _ _ _ _ _ _ _ _ (fun s6 s8 i g=>∃y:Nat,i=y∧y≤v.len∧Q1 g h1.length s5 z∧Q1 g (h1.length+2) s7 z∧Q1 g (h1.length+1) s6 y∧Q1 g (h1.length+3) s8 y∧Ext h1 g) (fun _ _ i _=>(v.len-i).toNat) ?_ _ _ _ ⟨0,rfl,by omega,p1,p3,p2,p4,x⟩
  rintro X2 s6 s8 _ g ⟨y,rfl,hy,p1,p3,p2,p4,x⟩ hX
  unfold zkc
  have hl:=hT3 (rows.length-1) (by omega)
  have et:((rows.length:Int)-1).toNat=rows.length-1:=by omega
  refine zc (fun hi=>?_) (fun hi=>?_)
  ·have XX:=x1.trans x
   refine Yd (a1.ext x) (r.ext XX) (rr.ext XX) (by omega) (by omega) (by omega) (by rw [show (0:Int).toNat=0 from rfl];omega) (hN.1 _ _ (by rw [show (0:Int).toNat=0 from rfl];omega) (by rw [show (0:Int).toNat=0 from rfl];omega)) (by omega) (by omega) ?_
   refine p2.push (by omega) fun s6' g5 p2' b5=>?_
   have x5:=x.but_ b5 (zi (by omega))
   have XX5:=x1.trans x5
   rw [zf (n:=(q.len:Int)-1) (by omega) (by omega),show (q.len:Int)-1=(rows.length:Int)-1 by rw [hq]]
   refine Yd (a1.ext x5) (r.ext XX5) (rr.ext XX5) (by omega) (by omega) (by omega) (by rw [et];omega) (hN.1 _ _ (by rw [et];omega) (by rw [et];omega)) (by omega) (by omega) ?_
   refine (p4.but b5 (by omega)).push (by omega) fun s8' g6 p4' b6=>?_
   rw [zf (n:=(y:Int)+1) (by omega) (by omega)]
   exact hX _ _ _ _ ⟨y+1,by push_cast;rfl,by omega,(p1.but b5 (by omega)).but b6 (by omega),(p3.but b5 (by omega)).but b6 (by omega),p2'.but b6 (by omega),p4',x5.but_ b6 (zi (by omega))⟩ (by omega)
  ·unfold zxv
   refine zj (by rfl) fun w g5 ow lw wo e5=>?_
   have y5:Ext g g5:=by rw [e5];exact Ext.app _ _
   have m5:g5.length=g.length+1:=by rw [e5];simp
   obtain ⟨o1,l1,k1,w1⟩:=p1
   obtain ⟨o2,l2,k2,w2⟩:=p2
   obtain ⟨o3,l3,k3,w3⟩:=p3
   obtain ⟨o4,l4,k4,w4⟩:=p4
   have hx:=x.len
   have bt:∀{s:Sl} {n:Nat} {l:List Int},s.o=some n→h1.length≤n→Ow g s 1 (ic l)→Rd g5 s 1 (ic l)∧Btw h.length g5.length s:=fun {s n l} e hn ow=>⟨(ow.ext y5).rd,fun i q=>by have:=ow.lt q;rw [e] at q;have:=Option.some.inj q;omega⟩
   refine ⟨w,rfl,[l1,l2,l3,l4],⟨[s5,s6,s7,s8],rfl,ow.rd,fun i q=>by rw [wo] at q;have:=Option.some.inj q;omega,fun i v l hv hl=>?_⟩,rfl,fun l hl=>?_,(x1.trans x).trans y5⟩
   ·have hi4:i<4:=(List.getElem?_eq_some_iff.1 hl).1
    have hk':i=0∨i=1∨i=2∨i=3:=by omega
    rcases hk' with rfl | rfl | rfl | rfl
    ·obtain rfl:=Option.some.inj hv;obtain rfl:=Option.some.inj hl
     exact bt o1 (by omega) w1
    ·obtain rfl:=Option.some.inj hv;obtain rfl:=Option.some.inj hl
     exact bt o2 (by omega) w2
    ·obtain rfl:=Option.some.inj hv;obtain rfl:=Option.some.inj hl
     exact bt o3 (by omega) w3
    ·obtain rfl:=Option.some.inj hv;obtain rfl:=Option.some.inj hl
     exact bt o4 (by omega) w4
   ·simp only [List.mem_cons,List.not_mem_nil,or_false] at hl
    rcases hl with rfl | rfl | rfl | rfl <;> omega
end
end Go.Proofs.YtlcgclmobfdbcaaGreat.Cl
set_option linter.unusedVariables false
set_option linter.unusedSimpArgs false
namespace Go.Proofs.YtlcgclmobfdbcaaGreat.Cl
open Go
structure St (n lo hi:Nat) (P:List (List Int)) (g:H) (s8 s9:Sl):Prop where
 ge:n≤lo
 lh:lo≤hi
 hg:hi≤g.length
 pl:PlN lo hi g s8 P
 bo:∃B,BoN n lo hi g s9 B∧B.length=4∧∀l∈B,l.length≤10
 len:1≤P.length∧P.length≤10
 row:∀l∈P,1≤l.length∧l.length≤10
section
variable {h g g':H} {o:Nat} {u s8 s9:Sl} {c:Int} {ts:List Tile} {lo hi n:Nat} {P B:List (List Int)}
theorem St.chg {Q:Nat→Prop} (r:St n lo hi P g s8 s9) (c:Chg Q g g') (hQ:∀i,n≤i→i<g.length→¬Q i):St n lo hi P g' s8 s9:=by
 have a:=r.ge;have b:=r.lh;have d:=r.hg;have e:=c.1
 obtain ⟨B,x,y⟩:=r.bo
 exact ⟨a,b,by omega,r.pl.chg c fun i p q=>hQ i (by omega) (by omega),⟨B,x.chg c fun i p _ q=>hQ i p q,y⟩,r.len,r.row⟩
theorem St.in9 (r:St n lo hi P g s8 s9):∀i,s9.o=some i→(n≤i∧(i<lo∨hi≤i))∧i<g.length:=fun i e=>by
 obtain ⟨B,⟨vs,a,b,f,d⟩,_⟩:=r.bo
 exact ⟨f i e,b.lt e⟩
theorem St.set (r:St n lo hi P g s8 s9) {k:Int} (k0:0≤k) (hk:k<4) {v:Sl} {l:List Int} (rv:Rd g v 1 (ic l)) (hl:l.length≤10) (ov:Off n lo hi v) (hv:∀o,v.o=some o→s9.o≠some o) {K:H→Prop}
  (hK:∀g',St n lo hi P g' s8 s9→But s9.o g g'→g'.length=g.length→K g'):ixS s9 1 k fun p=>Cl.st1 p (.sl v) g K:=by
 have f:=r.in9
 obtain ⟨B,x,y,z⟩:=r.bo
 refine x.set k0 (by omega) rv ov hv fun g' x' b' l'=>hK g' ⟨r.ge,r.lh,by have:=r.hg;omega,?_,⟨_,x',by rw [List.length_set];exact y,fun w hw=>?_⟩,r.len,r.row⟩ b' l'
 ·refine r.pl.chg (b'.chg (P:=fun i=>s9.o=some i) fun i e=>e) fun i p q e=>?_
  have:=f i e
  omega
 ·rcases List.mem_or_eq_of_mem_set hw with hw | hw
  ·exact z w hw
  ·subst hw;exact hl
theorem Ctx.but9 (x:Ctx h o u c g) (ho:o<h.length) (st:St (h.length+1) lo hi P g s8 s9) (b:But s9.o g g'):Ctx h o u c g':=
 x.step ho (x.src.but b fun i e=>by have:=(st.in9 i e).1.1;omega) (b.chg fun i e=> .inr (st.in9 i e).1.1)
theorem St.of {g1 g2:H} (p:NewSS g.length g1 s8 P) (b:NewSS g1.length g2 s9 openB) (e2:Ext g1 g2) (hm:n≤g.length) (hg:g.length≤g1.length) (hl:1≤P.length∧P.length≤10) (hr:∀l∈P,1≤l.length∧l.length≤10):St n g.length g1.length P g2 s8 s9:=
 ⟨hm,hg,e2.len,(PlN.of p rfl).chg (e2.chg fun _=>False) fun _ _ _ f=>f,⟨openB,(BoN.of b (Nat.le_refl _)).le (by omega),rfl,fun l hl=>by
  simp only [openB,List.mem_cons,List.not_mem_nil,or_false] at hl
  rcases hl with rfl | rfl | rfl | rfl <;> simp⟩,hl,hr⟩
theorem zhn {a b:Nat} (hb:1≤b∧b≤10):∀l∈zY a b,1≤l.length∧l.length≤10:=fun l hl=>by
 rw [List.eq_of_mem_replicate hl,List.length_replicate]
 exact hb
theorem Wi (a b:Nat):(zY a b).length=a:=List.length_replicate
theorem Yi (ho:o<h.length) (x:Ctx h o u c g) (st:St (h.length+1) lo hi P g s8 s9):xN SP (DrPB h o) ⟨some o,3,0⟩ ⟨some h.length,2,0⟩ s8 s9 g:=by
 obtain ⟨B,a,b,d⟩:=st.bo
 exact znj ho x st.ge st.lh st.pl a st.hg st.len st.row b d
theorem zni (ho:o<h.length) (x:Ctx h o u c g) (ru:Rd h u 4 (tcs ts)) (fu:∀i,u.o=some i→i≠o) (st:St (h.length+1) lo hi P g s8 s9) {s14:Sl} {rows:List (List Int)} {b:Bool} (hs:b=true→RdSS g s14 rows∧Nums ts.length rows):
  yI SP (DrPB h o) ⟨some o,3,0⟩ ⟨some h.length,2,0⟩ s8 s9 s14 b g:=by
 unfold yI
 cases b with
 | false=>exact Yi ho x st
 | true=>
 obtain ⟨rr,hN⟩:=hs rfl
 obtain ⟨⟨hT1,hT2⟩,hT3⟩:=hN.2
 have hw:=hT3 0 (by omega)
 have hgl:h.length+1≤g.length:=by have:=x.set.lt;omega
 have hl:=rr.len
 refine x.set.ldA rfl ?_
 refine (zAS (x.rd ru fu) rr hN).to ?_
 rintro own g1 ⟨Bo,ro,ob,ol,e1⟩
 refine (rr.ext e1).ldG (by omega) (by omega) fun v rv lv=>?_
 rw [show (0:Int).toNat=0 from rfl] at lv
 refine (XY (by omega) (by omega)).to ?_
 rintro s6 g2 ⟨np,e2⟩
 refine l03Open_c.to ?_
 rintro s8' g3 ⟨_,nb,e3⟩
 have he1:=e1.len;have he2:=e2.len;have he3:=e3.len
 have E:=(e1.trans e2).trans e3
 have st3:=St.of (n:=h.length+1) np nb e3 (by omega) he2 (by rw [Wi];omega) (zhn (by omega))
 have hb8:∀i,s8'.o=some i→g2.length≤i:=nb.fr
 have ro3:RdF2 g.length g1.length g3 own Bo:=(ro.chg (e2.chg fun _=>False) fun _ _ _ f=>f).chg (e3.chg fun _=>False) fun _ _ _ f=>f
 refine zpx _ _ _ _ _ _ _ (fun i q=>0≤i∧i≤4∧Ctx h o u c q∧St (h.length+1) g1.length g2.length (zY ((s14.len:Nat):Int).toNat ((v.len:Nat):Int).toNat) q s6 s8'∧RdF2 g.length g1.length q own Bo) (fun i _=>(4-i).toNat) ?_ _
  ⟨by omega,by omega,x.step ho (x.src.ext E) (E.chg _),st3,ro3⟩
 rintro X4 i q ⟨i0,i4,xq,sq,rq⟩ hX
 unfold zkL
 refine zc (fun hi2=>?_) (fun hi2=>Yi ho xq sq)
 refine (zH xq.src 3).to ?_
 rintro k q1 ⟨_,r1,b1,l1⟩
 have c1:Chg (fun i=>i=o) q q1:=b1.chg fun i e=>(Option.some.inj e).symm
 have x1:=xq.step ho r1 (xq.src.self b1)
 have s1:=sq.chg c1 fun i a b e=>by omega
 have ro1:=rq.chg c1 fun i a b e=>by omega
 unfold YJ
 rw [zf (n:=i+1) (by omega) (by omega)]
 refine zc (fun _=>?_) (fun _=>hX _ _ ⟨by omega,by omega,x1,s1,ro1⟩ (by omega))
 obtain ⟨vs,va,vb,vf,vd⟩:=ro1
 refine vb.ldS i0 (by omega) fun w hw'=>?_
 have hBo:Bo[i.toNat]? = some Bo[i.toNat]:=List.getElem?_eq_getElem (by omega)
 obtain ⟨rw1,fw⟩:=vd _ _ _ hw' hBo
 refine s1.set i0 (by omega) rw1 (by have:=ol Bo[i.toNat] (List.getElem_mem _);omega) (fun j e=>by have:=fw j e;omega) (fun j e e2=>by have:=fw j e;have:=hb8 j e2;omega) fun q2 s2 b2 l2=>?_
 exact hX _ _ ⟨by omega,by omega,x1.but9 ho s1 b2,s2,(show RdF2 g.length g1.length q1 own Bo from ⟨vs,va,vb,vf,vd⟩).chg (b2.chg (P:=fun i=>s8'.o=some i) fun i e=>e) fun i a b e=>by have:=hb8 i e;omega⟩ (by omega)
theorem zbf (ho:o<h.length) (x:Ctx h o u c g) (ru:Rd h u 4 (tcs ts)) (fu:∀i,u.o=some i→i≠o) (st:St (h.length+1) lo hi P g s8 s9) (hts:ts.length≤1000) {b:Bool} (hs:b=true→1≤ts.length):
  qE SP (DrPB h o) ⟨some o,3,0⟩ ⟨some h.length,2,0⟩ s8 s9 b g:=by
 unfold qE
 cases b with
 | false=>exact Yi ho x st
 | true=>
 have h1:=hs rfl
 have hgl:h.length+1≤g.length:=by have:=x.set.lt;omega
 refine x.set.ldA rfl ?_
 refine (zpT x.src (x.rd ru fu) fu h1 hts).to ?_
 rintro s14 g1 ⟨rows,rr,_,_,r1,c1⟩
 have x1:=x.step ho r1 (c1.to fun i _ e=> .inl e)
 have s1:=st.chg c1 fun i a b e=>by omega
 refine x1.set.ldA rfl ?_
 refine (zrh (x1.rd ru fu) rr.rd).to ?_
 rintro n g2 ⟨en,e2⟩
 have x2:=x1.step ho (x1.src.ext e2) (e2.chg _)
 have s2:=s1.chg (e2.chg fun _=>False) fun _ _ _ f=>f
 have rr2:=rr.rd.ext e2
 have no:∀{b:Bool} {q:H},Ext g2 q→(b=true→Nums ts.length rows)→yI SP (DrPB h o) ⟨some o,3,0⟩ ⟨some h.length,2,0⟩ s8 s9 s14 b q:=fun {b q} e hb=>
  zni ho (x2.step ho (x2.src.ext e) (e.chg _)) ru fu (s2.chg (e.chg fun _=>False) fun _ _ _ f=>f) fun hb'=>⟨rr2.ext e,hb hb'⟩
 refine zp (fun h0=>?_) (fun _=>no (b:=false) (Ext.refl _) fun e=>by cases e)
 rw [en] at h0
 have hN:=(zM h0).2
 refine x2.set.ldA rfl ?_
 refine (zri (x2.rd ru fu) rr2 hN).to ?_
 rintro b g3 ⟨_,e3⟩
 have x3:=x2.step ho (x2.src.ext e3) (e3.chg _)
 have rr3:=rr2.ext e3
 have hr1:=hN.2.1.1
 cases b with
 | false=>exact no (b:=false) e3 fun e=>by cases e
 | true=>
 refine zc (fun _=>?_) (fun _=>no (b:=false) e3 fun e=>by cases e)
 refine rr3.ldG (by omega) (by omega) fun v rv lv=>?_
 refine zc (fun _=>?_) (fun _=>no (b:=false) e3 fun e=>by cases e)
 refine zh (x3.set.ldI rfl rfl ?_)
 refine zc (fun _=>no e3 fun _=>hN) (fun _=>?_)
 refine rr3.ldG (by omega) (by omega) fun v rv lv=>?_
 exact no e3 fun _=>hN
theorem znk (ho:o<h.length) (x:Ctx h o u c g) (ru:Rd h u 4 (tcs ts)) (fu:∀i,u.o=some i→i≠o) (st:St (h.length+1) lo hi P g s8 s9) (hts:ts.length≤1000):
  YK SP (DrPB h o) ⟨some o,3,0⟩ ⟨some h.length,2,0⟩ s8 s9 g:=by
 unfold YK
 have hl:=ru.tlen
 refine zh (x.set.ldS rfl rfl ?_)
 refine zc (fun hp=>?_) (fun _=>zbf ho x ru fu st hts fun e=>by cases e)
 refine (zH x.src 3).to ?_
 rintro k q1 ⟨_,r1,b1,l1⟩
 exact zbf ho (x.step ho r1 (x.src.self b1)) ru fu (st.chg (b1.chg (P:=fun i=>i=o) fun i e=>(Option.some.inj e).symm) fun i a b e=>by omega) hts fun _=>by omega
theorem zbh (ho:o<h.length) (x:Ctx h o u c g) (ru:Rd h u 4 (tcs ts)) (fu:∀i,u.o=some i→i≠o) (st:St (h.length+1) lo hi P g s8 s9) (hts:ts.length≤1000) {i6 i7:Int} (h6:0≤i6∧i6≤10) (h7:0≤i7∧i7≤10):
  qI SP (DrPB h o) ⟨some o,3,0⟩ ⟨some h.length,2,0⟩ i6 i7 s8 s9 g:=by
 unfold qI
 refine zpy _ _ _ _ _ _ _ _ (fun i q=>0≤i∧i≤4∧Ctx h o u c q∧St (h.length+1) lo hi P q s8 s9) (fun i _=>(4-i).toNat) ?_ _ ⟨by omega,by omega,x,st⟩
 rintro X2 i q ⟨i0,i4,xq,sq⟩ hX
 unfold zkM
 refine zc (fun hi2=>?_) (fun hi2=>znk ho xq ru fu sq hts)
 refine (zH xq.src 3).to ?_
 rintro k q1 ⟨_,r1,b1,l1⟩
 have x1:=xq.step ho r1 (xq.src.self b1)
 have s1:=sq.chg (b1.chg (P:=fun i=>i=o) fun i e=>(Option.some.inj e).symm) fun i a b e=>by omega
 have hq1:h.length+1≤q1.length:=by have:=x1.set.lt;omega
 have hq2:=s1.hg
 have next:∀q',Ctx h o u c q'→St (h.length+1) lo hi P q' s8 s9→qG SP (DrPB h o) X2 ⟨some o,3,0⟩ ⟨some h.length,2,0⟩ i6 i7 s8 s9 i q':=fun q' x' s'=>by
  unfold qG
  rw [zf (n:=i+1) (by omega) (by omega)]
  exact hX _ _ ⟨by omega,by omega,x',s'⟩ (by omega)
 have word:∀{n:Int},0≤n∧n≤10→qF SP (DrPB h o) X2 ⟨some o,3,0⟩ ⟨some h.length,2,0⟩ i6 i7 s8 s9 i n q1:=fun {n} hn=>by
  unfold qF
  refine x1.set.ldA rfl ?_
  refine (zpS x1.src x1.set (by omega) (by omega) (by omega)).to ?_
  rintro v q2 ⟨l,ov,fv,hl,r2,c2⟩
  have x2:=x1.step ho r2 (c2.to fun i _ e=> .inl e)
  have s2:=s1.chg c2 fun i a b e=>by omega
  refine s2.set i0 (by omega) ov.rd (by omega) (fun j e=>by have:=fv j e;omega) (fun j e e2=>by have:=fv j e;have:=(s1.in9 j e2).2;omega) fun q3 s3 b3 l3=>?_
  exact next _ (x2.but9 ho s2 b3) s3
 refine zp (fun _=>?_) (fun _=>next _ x1 s1)
 refine ⟨by omega,?_⟩
 exact zp (fun _=>word h7) (fun _=>word h6)
theorem zbg (ho:o<h.length) (x:Ctx h o u c g) (ru:Rd h u 4 (tcs ts)) (fu:∀i,u.o=some i→i≠o) (hts:ts.length≤1000) {i6 i7:Int} (h6:1≤i6∧i6≤10) (h7:1≤i7∧i7≤10) (st:St (h.length+1) lo hi (zY i6.toNat i7.toNat) g s8 s9) {b:Bool}:
  qH SP (DrPB h o) ⟨some o,3,0⟩ ⟨some h.length,2,0⟩ i6 i7 s8 s9 b g:=by
 unfold qH
 cases b with
 | false=>exact zbh ho x ru fu st hts (by omega) (by omega)
 | true=>
 refine (zH x.src 3).to ?_
 rintro k q1 ⟨hk,r1,b1,l1⟩
 have hk1:=hk.1;have hk2:=hk.2.1 (by omega)
 refine zpz _ _ _ _ _ _ _ _ (fun i q=>0≤i∧i≤2∧Ctx h o u c q∧∃P,(P.length:Int)=i6∧(∀l∈P,(l.length:Int)=i7)∧St (h.length+1) lo hi P q s8 s9) (fun i _=>i.toNat) ?_ _
  ⟨by omega,by omega,x.step ho r1 (x.src.self b1),_,by rw [Wi];omega,fun l hl=>by rw [List.eq_of_mem_replicate hl,List.length_replicate];omega,st.chg (b1.chg (P:=fun i=>i=o) fun i e=>(Option.some.inj e).symm) fun i a b e=>by omega⟩
 rintro X0 i q ⟨i0,i2,xq,P,hP,hPl,sq⟩ hX
 unfold zkN
 refine zc (fun hi2=>?_) (fun hi2=>zbh ho xq ru fu sq hts (by omega) (by omega))
 refine (zH xq.src i6).to ?_
 rintro y q2 ⟨hy,r2,b2,l2⟩
 have hy1:=hy.1;have hy2:=hy.2.1 (by omega)
 have x2:=xq.step ho r2 (xq.src.self b2)
 have s2:=sq.chg (b2.chg (P:=fun i=>i=o) fun i e=>(Option.some.inj e).symm) fun i a b e=>by omega
 have hpl:=s2.pl.len
 obtain ⟨ws,pv⟩:=s2.pl
 refine pv.2.1.rd.ldS hy1 (by have:=pv.1;omega) fun v hv=>?_
 refine (zH x2.src i7).to ?_
 rintro z q3 ⟨hz,r3,b3,l3⟩
 have hz1:=hz.1;have hz2:=hz.2.1 (by omega)
 have x3:=x2.step ho r3 (x2.src.self b3)
 refine zh (x3.set.ldS rfl rfl ?_)
 refine ⟨(x2.set.cellE (n:=2) rfl).trans (x3.set.cellE (n:=2) rfl).symm,?_⟩
 refine (zH x3.src _).to ?_
 rintro k q4 ⟨_,r4,b4,l4⟩
 have x4:=x3.step ho r4 (x3.src.self b4)
 have c24:Chg (fun i=>i=o) q2 q4:=(b3.chg fun i e=>(Option.some.inj e).symm).trans (b4.chg fun i e=>(Option.some.inj e).symm)
 have s4:=s2.chg c24 fun i a b e=>by omega
 have hge:=s4.ge
 have hPy:P[y.toNat]? = some P[y.toNat]:=List.getElem?_eq_getElem (by omega)
 have hly:=hPl P[y.toNat] (List.getElem_mem _)
 refine (pv.chg c24 fun i a b e=>by omega).put hv hPy hz1 (by omega) _ fun q5 pv5 b5 l5 f5=>?_
 rw [zf (n:=i-1) (by omega) (by omega)]
 have hset:∀l∈P.set y.toNat (P[y.toNat].set z.toNat k),(l.length:Int)=i7:=fun l hl=>by
  rcases List.mem_or_eq_of_mem_set hl with hl | hl
  ·exact hPl l hl
  ·subst hl;rw [List.length_set];exact hly
 have x5:=x4.step ho (x4.src.but b5 fun i e=>by have:=f5 i e;omega) (b5.chg fun i e=> .inr (by have:=f5 i e;omega))
 obtain ⟨B,bb,bl,bm⟩:=s4.bo
 refine hX _ _ ⟨by omega,by omega,x5,_,by rw [List.length_set];exact hP,hset,hge,s4.lh,by have:=s4.hg;omega,⟨ws,pv5⟩,⟨B,bb.chg (b5.chg (P:=fun i=>v.o=some i) fun i e=>e) fun i a b _ e=>by have:=f5 i e;omega,bl,bm⟩,by rw [List.length_set];omega,fun l hl=>by have:=hset l hl;omega⟩ (by omega)
theorem zbi (ho:o<h.length) (x:Ctx h o u c g) (ru:Rd h u 4 (tcs ts)) (fu:∀i,u.o=some i→i≠o) (hts:ts.length≤1000) {i6 i7:Int} (h6:1≤i6∧i6≤10) (h7:1≤i7∧i7≤10):
  qJ SP (DrPB h o) ⟨some o,3,0⟩ ⟨some h.length,2,0⟩ i6 i7 g:=by
 unfold qJ
 have hgl:h.length+1≤g.length:=by have:=x.set.lt;omega
 refine (XY (by omega) (by omega)).to ?_
 rintro s8 g2 ⟨np,e2⟩
 refine l03Open_c.to ?_
 rintro s9 g3 ⟨_,nb,e3⟩
 have E:=e2.trans e3
 have st3:=St.of (n:=h.length+1) np nb e3 (by omega) e2.len (by rw [Wi];omega) (zhn (by omega))
 have x3:=x.step ho (x.src.ext E) (E.chg _)
 refine zh (x3.set.ldS rfl rfl ?_)
 refine zc (fun hp=>?_) (fun _=>zbg ho x3 ru fu hts h6 h7 st3)
 refine (zH x3.src 2).to ?_
 rintro k q1 ⟨_,r1,b1,l1⟩
 exact zbg ho (x3.step ho r1 (x3.src.self b1)) ru fu hts h6 h7 (st3.chg (b1.chg (P:=fun i=>i=o) fun i e=>(Option.some.inj e).symm) fun i a b e=>by omega)
theorem zpU (r:Src h o) (ru:Rd h u 4 (tcs ts)) (fu:∀i,u.o=some i→i≠o) (hts:ts.length≤1000):callV SP zrT [.ptr ⟨some o,3,0⟩,.agg (SetC c u)] h (DrPB h o):=by
 have ho:=r.lt
 apply zzG
 unfold V8
 refine zk fun h1 a1 x1 n1=>?_
 have X1:Ctx h o u c h1:=⟨r.ext x1,a1,x1.chg _⟩
 refine (zH X1.src 4).to ?_
 rintro a q1 ⟨ha,r1,b1,l1⟩
 have ha1:=ha.1;have ha2:=ha.2.1 (by omega)
 have X2:=X1.step ho r1 (X1.src.self b1)
 refine vF r1 (l:=[3,4]) rfl rfl (by simp) fun y q2 hy r2 c2=>?_
 have hy':y=3∨y=4:=by simpa using hy
 have X3:=X2.step ho r2 (c2.to fun i _ e=> .inl e)
 refine (zH X3.src y).to ?_
 rintro b q3 ⟨hb,r3,b3,l3⟩
 have hb1:=hb.1;have hb2:=hb.2.1 (by omega)
 have X4:=X3.step ho r3 (X3.src.self b3)
 refine zh (X4.set.ldI rfl rfl ?_)
 rw [zf (n:=1+a) (by omega) (by omega),zf (n:=1+b) (by omega) (by omega)]
 refine zc (fun _=>?_) (fun _=>zbi ho X4 ru fu hts (by omega) (by omega))
 refine (zH X4.src 3).to ?_
 rintro b q5 ⟨hb,r5,b5,l5⟩
 have hb1:=hb.1;have hb2:=hb.2.1 (by omega)
 rw [zf (n:=1+b) (by omega) (by omega)]
 exact zbi ho (X4.step ho r5 (X4.src.self b5)) ru fu hts (by omega) (by omega)
end
end Go.Proofs.YtlcgclmobfdbcaaGreat.Cl
set_option linter.unusedVariables false
set_option linter.unusedSimpArgs false
namespace Go.Proofs.YtlcgclmobfdbcaaGreat.Cl
open Go
def BxS (n p o:Nat) (g:H):Prop:=∃u c ts,Obj g p (SetC c u)∧Rd g u 4 (tcs ts)∧WSet c ts∧(∀i,u.o=some i→n≤i)∧Src g o
def DrWZ (h:H) (o:Nat) (v:AVal) (h':H):Prop:=∃u c ts w bw P B,v = .tuple [.agg (SetC c u),.sl w,.sl bw]∧Rd h' u 4 (tcs ts)∧ts.length≤17∧Fr h.length u∧RdSF h.length h' w P∧RdSF h.length h' bw B∧SmL P∧SmL B∧Src h' o∧Chg (fun i=>i=o) h h'
def DrW3 (h:H) (v:AVal) (h':H):Prop:=∃u c ts w bw P B,v = .tuple [.agg (SetC c u),.sl w,.sl bw]∧Rd h' u 4 (tcs ts)∧ts.length≤17∧RdSS h' w P∧RdSS h' bw B∧SmL P∧SmL B∧Ext h h'
def DrW5 (h:H) (v:AVal) (h':H):Prop:=∃u c ts w bw P B y x,v = .tuple [.agg (SetC c u),.sl w,.sl bw,i64 y,i64 x]∧Rd h' u 4 (tcs ts)∧ts.length≤17∧RdSS h' w P∧RdSS h' bw B∧SmL P∧SmL B∧vL y∧vL x∧Ext h h'
def DrF (h:H) (cs:List AVal) (h':H):Prop:=∃u c ts,cs=SetC c u∧Rd h' u 4 (tcs ts)∧ts.length≤17∧Fr h.length u∧Ext h h'
section
variable {h g g':H} {o n p:Nat}
theorem Yg {l:List AVal} {u:Sl} {c:Int} {ts:List Tile} (P:Obj g p l) (hl:l.length=2) (r:Rd g u 4 (tcs ts)) (hn:u.o≠some p) {K:List AVal→H→Prop}
  (hk:∀h',Rd h' u 4 (tcs ts)→But (some p) g h'→h'.length=g.length→K (SetC c u) h'):stN ⟨some p,2,0⟩ 2 (SetC c u) g fun h6=>ldA ⟨some p,2,0⟩ 2 h6 fun cs=>K cs h6:=by
 refine P.stA (fun h6 o6 b6 n6=>?_) hl
 exact o6.ldA rfl (hk h6 (r.but b6 (.inl fun e=>hn e.symm)) b6 n6)
theorem BxS.of {u:Sl} {c:Int} {ts:List Tile} {l:List AVal} (b:Obj g p l) (hl:l.length=2) (ru:Rd g u 4 (tcs ts)) (hw:WSet c ts) (fu:∀i,u.o=some i→n≤i∧i≠p) (r:Src g o) (ho:o<p) {K:H→Prop}
  (hk:∀g',BxS n p o g'→But (some p) g g'→g'.length=g.length→K g'):stN ⟨some p,2,0⟩ 2 (SetC c u) g K:=by
 refine b.stA (fun g' o' b' l'=>?_) hl
 exact hk g' ⟨u,c,ts,o',ru.but b' (.inl fun e=>(fu p e.symm).2 rfl),hw,fun i e=>(fu i e).1,r.but b' fun i e=>by have:=Option.some.inj e;omega⟩ b' l'
theorem BxS.src (b:BxS n p o g):Src g o:=by obtain ⟨_,_,_,_,_,_,_,r⟩:=b;exact r
theorem BxS.chg (b:BxS n p o g) (r:Src g' o) (c:Chg (fun i=>i=o) g g') (hn:o<n) (hp:o≠p):BxS n p o g':=by
 obtain ⟨u,d,ts,b1,b2,b3,b4,_⟩:=b
 exact ⟨u,d,ts,b1.chg c (by omega),b2.chg c fun i e=>by have:=b4 i e;omega,b3,b4,r⟩
theorem zaU {l:List AVal} (h0:Obj g h.length l) (hl:l.length=2) (b:BxS (h.length+1) p o g) (hp:h.length<p) (ho:o<h.length) (cg:Chg (fun i=>i=o∨h.length≤i) h g):ZR SP (DrWZ h o) ⟨some o,3,0⟩ ⟨some h.length,2,0⟩ ⟨some p,2,0⟩ g:=by
 have hg:=h0.lt
 unfold ZR
 obtain ⟨u,c,ts,b1,b2,b3,b4,b5⟩:=b
 refine b1.ldA rfl ?_
 refine (zpU b5 b2 (fun i e=>by have:=b4 i e;omega) (by have:=b3.len;omega)).to ?_
 rintro _ g1 ⟨w,bw,P,B,rfl,rp,rb,sp,sb,r1,c1⟩
 have hc1:=c1.1
 refine ⟨_,rfl,_,rfl,_,rfl,_,rfl,?_⟩
 refine (b1.chg c1 (by omega)).ldA rfl ?_
 refine (zNl (n:=h.length+1) r1 (b2.chg c1 fun i e=>by have:=b4 i e;omega) b3 (fun i e=>b4 i e) (by omega) (by omega)).to ?_
 rintro _ g2 ⟨v,d,us,rfl,rv,hus,fv,r2,c2⟩
 have hc2:=c2.1
 refine Yg ((h0.chg c1 (by omega)).chg c2 (by omega)) hl rv (fun e=>by have:=fv _ e;omega) fun g3 rv3 b3 l3=>?_
 have c23:Chg (fun i=>i=o∨i=h.length) g1 g3:=(c2.to fun i _ e=> .inl e).trans (b3.chg fun i e=> .inr (Option.some.inj e).symm)
 exact ⟨v,d,us,w,bw,P,B,rfl,rv3,hus,fv.le (by omega),(rp.chg c23 fun i hi e=>by omega).le (by omega),(rb.chg c23 fun i hi e=>by omega).le (by omega),sp,sb,r2.but b3 fun i e=>by have:=Option.some.inj e;omega,
  ((cg.trans (c1.to fun i _ e=> .inl e)).trans (c23.to fun i _ e=>e.imp id fun e=>by omega)).to fun i hi e=>by omega⟩
theorem zHX (r:Src h o):callV SP zBP [.ptr ⟨some o,3,0⟩] h (DrWZ h o):=by
 have hlt:=r.lt
 apply zCy
 unfold zdp
 refine zo fun h1 o1 x1 n1=>?_
 refine (ziR (r.ext x1)).to ?_
 rintro _ h2 ⟨u,c,ts,rfl,ru,hw,fu,r2,c2⟩
 have hc2:=c2.1
 refine vG fun h3 o3 x3 n3=>?_
 have B3:BxS (h.length+1) h2.length o h3:=⟨u,c,ts,o3,ru.ext x3,hw,fun i e=>by have:=fu i e;omega,r2.ext x3⟩
 have C3:Chg (fun i=>i=o∨h.length≤i) h h3:=((x1.chg _).trans (c2.to fun i _ e=> .inl e)).trans (x3.chg _)
 have p3:=(o1.chg c2 (by omega)).ext x3
 refine (zH B3.src 4).to ?_
 rintro k h4 ⟨_,r4,b4,l4⟩
 have c4:Chg (fun i=>i=o) h3 h4:=b4.chg fun i e=>(Option.some.inj e).symm
 have B4:=B3.chg r4 c4 (by omega) (by omega)
 have p4:=p3.chg c4 (by omega)
 have C4:=C3.trans (c4.to fun i _ e=> .inl e)
 have hC4:=C4.1
 refine zp (fun _=>?_) (fun _=>zaU p4 rfl B4 (by omega) hlt C4)
 refine (zHS r4).to ?_
 rintro _ h5 ⟨u,c,ts,rfl,ru,hw,fu,r5,c5⟩
 have hc5:=c5.1
 refine BxS.of (n:=h.length+1) ((o3.chg c4 (by omega)).chg c5 (by omega)) rfl ru hw (fun i e=>by have:=fu i e;omega) r5 (by omega) fun h6 B6 b6 l6=>?_
 exact zaU ((p4.chg c5 (by omega)).but b6 (zq (by omega))) rfl B6 (by omega) hlt ((C4.trans (c5.to fun i _ e=> .inl e)).trans (b6.chg fun i e=> .inr (by have:=Option.some.inj e;omega)))
theorem zhs {h1:H} {l:List AVal} (h0:Obj g h.length l) (hl:l.length=2) (b:BxS (h.length+2) p (h.length+1) g) (hp:h.length+1<p) (x:Chg (fun i=>h.length≤i) h g) (hg:h.length+2≤g.length):
  ZP SP (fun v g'=>∃cs,v = .agg cs∧DrF h cs g') ⟨some h.length,2,0⟩ ⟨some (h.length+1),3,0⟩ ⟨some p,2,0⟩ g:=by
 unfold ZP
 obtain ⟨u,c,ts,b1,b2,b3,b4,b5⟩:=b
 refine b1.ldA rfl ?_
 refine (zNl (n:=h.length+2) b5 b2 b3 (fun i e=>b4 i e) hg (by omega)).to ?_
 rintro _ g2 ⟨v,d,us,rfl,rv,hus,fv,r2,c2⟩
 have hc2:=c2.1
 refine Yg (h0.chg c2 (by omega)) hl rv (fun e=>by have:=fv _ e;omega) fun g3 rv3 b3 l3=>?_
 have C:=(x.trans (c2.to fun i _ e=>by omega)).trans (b3.chg (P:=fun i=>h.length≤i) fun i e=>by have:=Option.some.inj e;omega)
 exact ⟨_,rfl,v,d,us,rfl,rv3,hus,fv.le (by omega),Ext.of C.1 fun i hi=>C.2 i hi (by omega)⟩
theorem zhr {l:List AVal} (h0:Obj g h.length l) (hl:l.length=2) (b:BxS (h.length+2) p (h.length+1) g) (hp:h.length+1<p) (x:Chg (fun i=>h.length≤i) h g) (hg:h.length+2≤g.length) {q:Bool}:
  ZO SP (fun v g'=>∃cs,v = .agg cs∧DrF h cs g') ⟨some h.length,2,0⟩ ⟨some (h.length+1),3,0⟩ ⟨some p,2,0⟩ q g:=by
 unfold ZO
 cases q with
 | false=>exact zhs (h1:=h) h0 hl b hp x hg
 | true=>
 obtain ⟨u,c,ts,b1,b2,b3,b4,b5⟩:=b
 have hpl:=b1.lt
 refine (Xt b5 3 6 (by omega) (by omega)).to ?_
 rintro _ g2 ⟨v,us,rfl,rv,hs,hsl,fv,r2,c2⟩
 have hc2:=c2.1
 refine BxS.of (n:=h.length+2) (b1.chg c2 (by omega)) rfl rv (.inl hs) (fun i e=>by have:=fv i e;omega) r2 (by omega) fun g3 B3 b3 l3=>?_
 exact zhs (h1:=h) ((h0.chg c2 (by omega)).but b3 (zq (by omega))) hl B3 hp ((x.trans (c2.to fun i _ e=>by omega)).trans (b3.chg fun i e=>by have:=Option.some.inj e;omega)) (by omega)
theorem zht {l:List AVal} (h0:Obj g h.length l) (hl:l.length=2) (b:BxS (h.length+2) p (h.length+1) g) (hp:h.length+1<p) (x:Chg (fun i=>h.length≤i) h g) (hg:h.length+2≤g.length):
  ZQ SP (fun v g'=>∃cs,v = .agg cs∧DrF h cs g') ⟨some h.length,2,0⟩ ⟨some (h.length+1),3,0⟩ ⟨some p,2,0⟩ g:=by
 unfold ZQ
 have bb:=b
 obtain ⟨u,c,ts,b1,b2,b3,b4,b5⟩:=bb
 refine zh (b1.ldI rfl rfl ?_)
 refine zc (fun _=>?_) (fun _=>zhr h0 hl b hp x hg)
 refine (zH b5 8).to ?_
 rintro k g2 ⟨_,r2,bt,l2⟩
 have c2:Chg (fun i=>i=h.length+1) g g2:=bt.chg fun i e=>(Option.some.inj e).symm
 exact zhr (h0.chg c2 (by omega)) hl (b.chg r2 c2 (by omega) (by omega)) hp (x.trans (c2.to fun i _ e=>by omega)) (by omega)
theorem zNo {s:Sl} {q:List Int} (r:CodeB h s q):callA SP zBK [.sl s] h (DrF h):=by
 apply zCh
 unfold zcJ
 refine zo fun h1 o1 x1 n1=>?_
 refine (r.ext x1).from.to ?_
 rintro _ h2 ⟨rfl,r2,x2⟩
 rw [n1] at r2 ⊢
 have hq:=r2.lt
 refine (ziR r2).to ?_
 rintro _ h3 ⟨u,c,ts,rfl,ru,hw,fu,r3,c3⟩
 have hc3:=c3.1
 refine vG fun h4 o4 x4 n4=>?_
 have B4:BxS (h.length+2) h3.length (h.length+1) h4:=⟨u,c,ts,o4,ru.ext x4,hw,fun i e=>by have:=fu i e;omega,r3.ext x4⟩
 have C4:Chg (fun i=>h.length≤i) h h4:=(((x1.trans x2).chg _).trans (c3.to fun i _ e=>by omega)).trans (x4.chg _)
 have p4:=((o1.ext x2).chg c3 (by omega)).ext x4
 refine (zH B4.src 6).to ?_
 rintro k h5 ⟨_,r5,b5,l5⟩
 have c5:Chg (fun i=>i=h.length+1) h4 h5:=b5.chg fun i e=>(Option.some.inj e).symm
 have B5:=B4.chg r5 c5 (by omega) (by omega)
 have p5:=p4.chg c5 (by omega)
 have C5:Chg (fun i=>h.length≤i) h h5:=C4.trans (c5.to fun i _ e=>by omega)
 refine zp (fun _=>?_) (fun _=>zht p5 rfl B5 (by omega) C5 (by omega))
 refine (zHS r5).to ?_
 rintro _ h6 ⟨u,c,ts,rfl,ru,hw,fu,r6,c6⟩
 have hc6:=c6.1
 refine BxS.of (n:=h.length+2) ((o4.chg c5 (by omega)).chg c6 (by omega)) rfl ru hw (fun i e=>by have:=fu i e;omega) r6 (by omega) fun h7 B7 b7 l7=>?_
 exact zht ((p5.chg c6 (by omega)).but b7 (zq (by omega))) rfl B7 (by omega) ((C5.trans (c6.to fun i _ e=>by omega)).trans (b7.chg fun i e=>by have:=Option.some.inj e;omega)) (by omega)
theorem qN {s:Sl} {q:List Int} (r:CodeB h s q):callA SP zBV [.sl s] h (DrF h):=by
 apply zCU
 unfold zec
 refine zo fun h1 o1 x1 n1=>?_
 refine (zNo (r.ext x1)).to ?_
 rintro _ h2 ⟨u,c,ts,rfl,ru,hl,fu,x2⟩
 refine Yg (o1.ext x2) rfl ru (fun e=>by have:=fu _ e;omega) fun h3 ru3 b3 l3=>?_
 exact ⟨_,rfl,u,c,ts,rfl,ru3,hl,fu.le (by omega),(x1.trans x2).but_ b3 (zi (Nat.le_refl _))⟩
theorem Z9 {s:Sl} {q:List Int} (r:CodeB h s q):callV SP zIS [.sl s] h fun v h'=>∃u c ts n,v = .tuple [.agg (SetC c u),i64 n]∧Rd h' u 4 (tcs ts)∧ts.length≤17∧vL n∧Ext h h':=by
 apply zCZ
 unfold zem
 refine zo fun h1 o1 x1 n1=>?_
 refine (zNo (r.ext x1)).to ?_
 rintro _ h2 ⟨u,c,ts,rfl,ru,hl,fu,x2⟩
 have hx2:=x2.len
 refine ((r.ext x1).ext x2).from.to ?_
 rintro _ h3 ⟨rfl,r3,x3⟩
 have hx3:=r3.lt
 refine zj (by rfl) fun w h4 ow lw wo e4=>?_
 have x4:Ext h3 h4:=by rw [e4];exact Ext.app _ _
 refine (zlw (r3.ext x4) (l:=[1,2,2,3,3,4,0,5]) ow.rd (by rw [wo];exact zq (by omega)) (by simp)).to ?_
 rintro n h5 ⟨hn,r5,b5,l5⟩
 have x25:Ext h2 h5:=(x3.trans x4).but_ b5 (zi (Nat.le_refl _))
 have hnn:vL n:=by
  unfold vL
  simp at hn;omega
 refine Yg (o1.ext (x2.trans x25)) rfl (ru.ext x25) (fun e=>by have:=fu _ e;omega) fun h6 ru6 b6 l6=>?_
 exact ⟨u,c,ts,n,rfl,ru6,hl,hnn,((x1.trans x2).trans x25).but_ b6 (zi (Nat.le_refl _))⟩
theorem Xc {s:Sl} {q:List Int} (r:CodeB h s q):callV SP zIX [.sl s] h (DrW3 h):=by
 apply zDQ
 unfold zfR
 refine zo fun h1 o1 x1 n1=>?_
 refine (r.ext x1).from.to ?_
 rintro _ h2 ⟨rfl,r2,x2⟩
 have hq:=r2.lt
 refine (zHX r2).to ?_
 rintro _ h3 ⟨u,c,ts,w,bw,P,B,rfl,ru,hl,fu,rp,rb,sp,sb,r3,c3⟩
 refine ⟨_,rfl,_,rfl,_,rfl,_,rfl,_,rfl,_,rfl,?_⟩
 refine zEO fun h4 o4 x4 n4=>?_
 have hx2:=x2.len
 refine Yg (((o1.ext x2).chg c3 (by omega)).ext x4) rfl (ru.ext x4) (fun e=>by have:=fu _ e;omega) fun h5 ru5 b5 n5=>?_
 have c35:Chg (fun i=>i=h.length) h3 h5:=(x4.chg _).trans (b5.chg fun i e=>(Option.some.inj e).symm)
 exact ⟨u,c,ts,w,bw,P,B,rfl,ru5,hl,(rp.chg c35 fun i hi e=>by omega).rd,(rb.chg c35 fun i hi e=>by omega).rd,sp,sb,(((x1.trans x2).chg_ c3 fun i e=>by omega).trans x4).but_ b5 (zi (Nat.le_refl _))⟩
theorem zgt {s:Sl} {q:List Int} (r:CodeB h s q):callV SP zBX [.sl s] h (DrW5 h):=by
 apply zDc
 unfold zes
 refine zo fun h1 o1 x1 n1=>?_
 refine (r.ext x1).from.to ?_
 rintro _ h2 ⟨rfl,r2,x2⟩
 have hq:=r2.lt
 refine (zHX r2).to ?_
 rintro _ h3 ⟨u,c,ts,w,bw,P,B,rfl,ru,hl,fu,rp,rb,sp,sb,r3,c3⟩
 have hc3:=c3.1
 refine ⟨_,rfl,_,rfl,_,rfl,_,rfl,_,rfl,_,rfl,?_⟩
 refine zEO fun h4 o4 x4 n4=>?_
 have hx2:=x2.len
 refine (zEP (r3.ext x4) 2 (by omega)).to ?_
 rintro a h5 ⟨ha,r5,c5⟩
 refine ⟨((o4.chg c5 (by omega)).rangeE rfl).trans (o4.rangeE rfl).symm,?_⟩
 refine (zEP r5 2 (by omega)).to ?_
 rintro b h6 ⟨hb,r6,c6⟩
 have c46:=c5.trans c6
 refine ⟨((o4.chg c46 (by omega)).rangeE rfl).trans (o4.rangeE rfl).symm,?_⟩
 refine Yg ((((o1.ext x2).chg c3 (by omega)).ext x4).chg c46 (by omega)) rfl ((ru.ext x4).chg c46 fun i e=>by have:=fu i e;omega) (fun e=>by have:=fu _ e;omega) fun h7 ru7 b7 n7=>?_
 have c37:Chg (fun i=>i=h1.length∨i=h.length) h3 h7:=((x4.chg _).trans (c46.to fun i _ e=> .inl e)).trans (b7.chg fun i e=> .inr (Option.some.inj e).symm)
 exact ⟨u,c,ts,w,bw,P,B,a,b,rfl,ru7,hl,(rp.chg c37 fun i hi e=>by omega).rd,(rb.chg c37 fun i hi e=>by omega).rd,sp,sb,ha,hb,((x1.trans x2).chg_ c3 fun i e=>by omega).chg_ c37 fun i e=>by omega⟩
end
end Go.Proofs.YtlcgclmobfdbcaaGreat.Cl
set_option linter.unusedVariables false
set_option linter.unusedSimpArgs false
namespace Go.Proofs.YtlcgclmobfdbcaaGreat.Cl
open Go
structure FE (c:Int) (ts:List Tile) (plan borders:List (List Int)) (u q bq pw cn al:Sl) (fo of_ ow ov ol oo:Nat) (g:H):Prop where
 ob:Obj g fo (FilC c u q bq pw cn al)
 f:FilH c ts plan borders u q bq pw g
 av:AlvT (dpOf c ts plan borders) g al
 vf:Var g of_ (.ptr ⟨some fo,7,0⟩)
 vw:Var g ow (i64 ((rw_ plan 0).length:Nat))
 vv:Var g ov (.func zIG [.ptr (pt oo)])
 vl:Var g ol (.func zrO [.ptr (pt of_),.ptr (pt ow),.ptr (pt ov),.ptr (pt ol)])
theorem FE.ext {c:Int} {ts:List Tile} {plan borders:List (List Int)} {u q bq pw cn al:Sl} {fo of_ ow ov ol oo:Nat} {g g':H} (E:FE c ts plan borders u q bq pw cn al fo of_ ow ov ol oo g) (x:Ext g g'):FE c ts plan borders u q bq pw cn al fo of_ ow ov ol oo g':=
 ⟨E.ob.ext x,E.f.ext x,E.av.ext x,E.vf.ext x,E.vw.ext x,E.vv.ext x,E.vl.ext x⟩
def FstP (D:Dp) (l:List Int) (st:Nat) (a:Int):Prop:=(l≠[]∧a=l.getD 0 0)∨(l=[]∧∃i:Nat,a=i∧i<D.n∧D.can st 0 i=true∧D.alive 1 (D.stepI st 0 i)∧∀j,j<i→¬(D.can st 0 j=true∧D.alive 1 (D.stepI st 0 j)))
def cutR (l:List Int) (w n:Nat):List (List Int):=(List.range n).map fun y=>(l.drop (y*w)).take w
theorem zAA (l:List Int) (w n:Nat):cutR l w (n+1)=cutR l w n++[(l.drop (n*w)).take w]:=by unfold cutR;rw [List.range_succ,List.map_append];rfl
theorem zLt {l:List Int} {w n:Nat} (hn:0<n) (hw:0<w) (hl:w≤l.length):(rw_ (cutR l w n) 0).length=w∧G (cutR l w n) 0 0=l.getD 0 0:=by
 have e:rw_ (cutR l w n) 0=l.take w:=by
  unfold rw_ cutR
  rw [List.getD_eq_getElem?_getD,List.getElem?_map,List.getElem?_range hn]
  simp
 unfold G
 rw [e]
 refine ⟨by rw [List.length_take];omega,?_⟩
 rw [List.getD_eq_getElem?_getD,List.getD_eq_getElem?_getD,List.getElem?_take,if_pos hw]
section
variable {c:Int} {ts:List Tile} {plan borders:List (List Int)} {u q bq pw cn al:Sl} {fo of_ ow ov ol oo:Nat} {hb:H} {v0:AVal}
set_option maxHeartbeats 1000000 in
theorem zLp (hs:setOK c ts) (hp:zJ c ts.length plan borders) (E:FE c ts plan borders u q bq pw cn al fo of_ ow ov ol oo hb) (vo:Var hb oo v0):∀(m:Nat) (l:List Int) (s:Sl) (st:Nat) (g:H),l.length+m=(dpOf c ts plan borders).size→(dpOf c ts plan borders).alive l.length st→Ow g s 1 (ic l)→(∀i,s.o=some i→hb.length≤i)→Ext hb g→
  callB SP zrO [.sl s,i64 st,.ptr (pt of_),.ptr (pt ow),.ptr (pt ov),.ptr (pt ol)] g fun b g'=>b=false∧(∃w rows a,Var g' oo (.sl w)∧RdSS g' w rows∧w.o.isSome=true∧rows.length=plan.length∧1≤(rw_ rows 0).length∧FstP (dpOf c ts plan borders) l st a∧G rows 0 0=a)∧Chg (fun i=>i=oo∨hb.length≤i) hb g':=by
 obtain ⟨d1,d2,d3,d4,d5,d6,d7,d8,d9⟩:=dims hs hp
 have ok:=wF hs hp
 have hfit:=fun {h:H} {cn al:Sl} (f:FilH c ts plan borders u q bq pw h) (ob:Obj h fo (FilC c u q bq pw cn al)) (s p i:Nat) (a:s<(dpOf c ts plan borders).c^((dpOf c ts plan borders).w+1)) (b:i<ts.length) (d:p<plan.length*(rw_ plan 0).length)=>zlZ hs hp f ob a b d
 have Dn':(dpOf c ts plan borders).n=ts.length:=rfl
 have Ds':(dpOf c ts plan borders).size=plan.length*(rw_ plan 0).length:=rfl
 have Dc':(dpOf c ts plan borders).c=c.toNat:=rfl
 have Dw':(dpOf c ts plan borders).w=(rw_ plan 0).length:=rfl
 have hav:=E.av
 have E0:=E
 have hsz:=fun {h:H} (x:Ext hb h) {K:Int→H→Prop} (k:K ((plan.length*(rw_ plan 0).length:Nat):Int) h)=>zgF hs hp (E0.ext x).f (E0.ext x).ob k
 have hul:=E.f.ru.tlen
 have hql:=E.f.rq.len
 have hoo:=vo.lt
 have hpw:1*(rw_ plan 0).length≤plan.length*(rw_ plan 0).length:=Nat.mul_le_mul_right _ (by omega)
 obtain ⟨vs,hvl,rvs,hrow⟩:=hav
 generalize dpOf c ts plan borders=D at ok hfit Dn' Ds' Dc' Dw' hvl rvs hrow ⊢
 have hlim:D.lim≤46656:=zV (by omega) (by omega)
 intro m
 induction m with
 | zero=>
  intro l s st g hl ha os so x
  have Eg:=E.ext x
  have hll:=os.rd.ilen
  apply zih
  unfold ZW
  refine Eg.vf.ldP (hsz x ?_)
  refine zp (fun _=>?_) (fun q=>by omega)
  refine zj (by rfl) fun s0 h1 os0 ls0 so0 e1=>?_
  have x1:Ext g h1:=by rw [e1];exact Ext.app _ _
  have X1:=x.trans x1
  refine (E.ext X1).vf.ldP ⟨rfl,rfl,(E.ext X1).ob.ldS (i:=2) rfl rfl ?_⟩
  rw [hql]
  refine zoC _ _ _ _ _ _ (fun s' i g'=>∃y:Nat,i=y∧y≤plan.length∧NewSS g.length g' s' (cutR l (rw_ plan 0).length y)∧s'.o.isSome=true∧Ext g g') (fun _ i _=>(plan.length-i).toNat) ?_ _ _
   ⟨0,rfl,by omega,NewSS.mk0 os0 (fun o e=>by rw [so0] at e;cases e;exact Nat.le_refl _),by rw [so0];rfl,x1⟩
  rintro X s' _ g' ⟨y,rfl,hy,nw,hso,xg⟩ hX
  have XG:=x.trans xg
  have EG:=E.ext XG
  unfold zko
  refine zc (fun hi=>?_) (fun hi=>?_)
  ·have hyl:y<plan.length:=by omega
   have hyw:(y+1)*(rw_ plan 0).length≤plan.length*(rw_ plan 0).length:=Nat.mul_le_mul_right _ hyl
   have e2:(y+1)*(rw_ plan 0).length=y*(rw_ plan 0).length+(rw_ plan 0).length:=by rw [Nat.add_mul,Nat.one_mul]
   refine EG.vw.ldI (EG.vw.ldI ?_)
   rw [zf (n:=(y:Int)+1) (by omega) (by omega),show (y:Int)*((rw_ plan 0).length:Nat)=((y*(rw_ plan 0).length:Nat):Int) by push_cast;rfl,show ((y:Int)+1)*((rw_ plan 0).length:Nat)=(((y+1)*(rw_ plan 0).length:Nat):Int) by push_cast;rfl,
    zf (n:=((y*(rw_ plan 0).length:Nat):Int)) (by omega) (by omega),zf (n:=(((y+1)*(rw_ plan 0).length:Nat):Int)) (by omega) (by omega)]
   refine zHV (os.rd.ext xg) (by omega) (by omega) (by omega) (by omega) fun t rt ot lt=>?_
   have e4:((ic l).drop (((y*(rw_ plan 0).length:Nat):Int).toNat*1)).take (((((y+1)*(rw_ plan 0).length:Nat):Int)-((y*(rw_ plan 0).length:Nat):Int)).toNat*1)=ic ((l.drop (y*(rw_ plan 0).length)).take (rw_ plan 0).length):=by
    rw [show (((((y+1)*(rw_ plan 0).length:Nat):Int)-((y*(rw_ plan 0).length:Nat):Int)).toNat*1)=(rw_ plan 0).length by omega,show (((y*(rw_ plan 0).length:Nat):Int).toNat*1)=y*(rw_ plan 0).length by omega]
    unfold ic
    rw [←List.map_drop,←List.map_take]
   rw [e4] at rt
   refine (zLu rt (by rw [List.length_take];omega)).to ?_
   rintro s2 g2 ⟨o2,f2,x2⟩
   refine nw.pushZ x2 o2 f2 xg.len (by unfold cutR;rw [List.length_map,List.length_range];unfold lim;omega) fun s3 g3 n3 b3 k3=>?_
   refine hX _ _ _ ⟨y+1,by push_cast;rfl,hyl,by rw [zAA];exact n3,?_,(xg.trans x2).but_ b3 fun o e=>nw.frZ o e⟩ (by omega)
   cases hq:s'.o with
   | none=>rw [hq] at hso;cases hso
   | some i=>rw [k3 i hq];rfl
  ·unfold zyr
   have hyl:y=plan.length:=by omega
   subst hyl
   refine EG.vv.ldV (yz ?_)
   apply zCl
   unfold zcR
   refine (vo.ext XG).st _ fun h2 v2 b2 l2=>?_
   have hg:=x.len
   obtain ⟨c1,c2⟩:=zLt (l:=l) (w:=(rw_ plan 0).length) (n:=plan.length) (by omega) (by omega) (by omega)
   refine ⟨_,rfl,_,rfl,rfl,⟨s',_,_,v2,(nw.chg (b2.chg (P:=fun i=>i=oo) fun i e=>(Option.some.inj e).symm) fun i hi _=>by omega).rd,hso,by unfold cutR;rw [List.length_map,List.length_range],by omega,.inl ⟨fun e=>?_,rfl⟩,c2⟩,(XG.chg _).trans (b2.chg fun i e=> .inl (Option.some.inj e).symm)⟩
   rw [e] at hl
   rw [List.length_nil] at hl
   omega
 | succ m ih=>
  intro l s st g hl ha os so x
  have Eg:=E.ext x
  have hll:=os.rd.ilen
  have hpl:l.length<plan.length*(rw_ plan 0).length:=by omega
  apply zih
  unfold ZW
  refine Eg.vf.ldP (hsz x ?_)
  refine zp (fun q=>by omega) (fun _=>?_)
  refine Eg.vf.ldP ⟨rfl,rfl,rfl,Eg.ob.ldS (i:=1) rfl rfl ?_⟩
  rw [hul,hll]
  have hstl:st<D.lim:=Dp.reach_lt ok _ _ ha.1
  refine zoB _ _ _ _ _ _ _ _ (fun i q=>∃k:Nat,i=k∧k≤ts.length∧(∀j,j<k→¬(D.can st l.length j=true∧D.alive (l.length+1) (D.stepI st l.length j)))∧Ext g q) (fun i _=>(ts.length-i).toNat) ?_ _
   ⟨0,rfl,by omega,fun j hj=>by omega,Ext.refl _⟩
  rintro X _ g2 ⟨i,rfl,hi,hno,x2⟩ hX
  unfold zkn
  have X2:=x.trans x2
  have E2:=E.ext X2
  refine zc (fun hi2=>?_) (fun hi2=>?_)
  ·have hil:i<ts.length:=by omega
   refine E2.vf.ldP ?_
   refine (hfit E2.f E2.ob st l.length i hstl hil hpl).to ?_
   rintro _ g3 ⟨rfl,x3⟩
   have X3:=X2.trans x3
   have E3:=E.ext X3
   have go:∀g',Ext g g'→¬(D.can st l.length i=true∧D.alive (l.length+1) (D.stepI st l.length i))→X (vQ s st (pt of_) (pt ol) (l.length:Nat) (ts.length:Nat) (w64 ((i:Int)+1))) g':=fun g' x' hn=>by
    rw [zf (n:=(i:Int)+1) (by omega) (by omega)]
    refine hX _ _ ⟨i+1,by push_cast;rfl,by omega,fun j hj=>?_,x'⟩ (by omega)
    by_cases e:j=i
    ·rw [e];exact hn
    ·exact hno j (by omega)
   refine ⟨_,rfl,_,rfl,_,rfl,_,rfl,?_⟩
   refine yy (fun qc=>?_) (fun qc=>go _ (x2.trans x3) fun h=>by have:=h.1;rw [qc] at this;cases this)
   refine E3.vf.ldP ⟨rfl,rfl,E3.ob.ldS (i:=6) rfl rfl ?_⟩
   rw [zf (n:=((l.length:Nat):Int)+1) (by omega) (by omega)]
   have hal:al.len=D.size+1:=by have:=rvs.len;rw [List.length_map,hvl,Nat.mul_one] at this;omega
   refine (rvs.ext X3).ldS (by omega) (by omega) fun wn hwn=>?_
   rw [show (((l.length:Nat):Int)+1).toNat=l.length+1 by omega] at hwn
   obtain ⟨bn,rbn,ybn⟩:=hrow _ wn hwn
   rw [if_pos qc]
   have hsi:D.stepI st l.length i<D.lim:=Dp.stepI_lt ok (by omega)
   refine Rd.ldB (rbn.ext X3) (by omega) (by rw [ybn.1];omega) fun b2 hb2=>?_
   rw [Int.toNat_natCast] at hb2
   have hba:b2=true↔D.alive (l.length+1) (D.stepI st l.length i):=by
    have:=ybn.2 _ hsi
    rw [List.getD_eq_getElem?_getD,hb2] at this
    exact this
   refine yy (fun qb=>?_) (fun qb=>go _ (x2.trans x3) fun h=>by have:=hba.2 h.2;rw [qb] at this;cases this)
   refine E3.vl.ldV ?_
   refine zj (by rfl) fun t h4 ot lt to e4=>?_
   have x4:Ext g3 h4:=by rw [e4];exact Ext.app _ _
   have X4:=X3.trans x4
   refine ⟨(E.ext X4).vl.cell.trans E3.vl.cell.symm,?_⟩
   refine yk (by omega) (os.ext ((x2.trans x3).trans x4)) ot.rd (by rw [hll,lt];unfold lim;omega) fun s' h5 os' ls' b5 k1 k2=>?_
   have X5:=X4.but_ b5 so
   have E5:=E.ext X5
   refine ⟨E5.vl.cell.trans E3.vl.cell.symm,?_⟩
   refine yz ?_
   have hs':∀i,s'.o=some i→hb.length≤i:=fun j e=>by
    cases hq:s.o with
    | none=>have:=k2 hq j e;have:=X4.len;omega
    | some p=>rw [k1 p hq] at e;exact so j (by rw [hq];exact e)
   have os5:Ow h5 s' 1 (ic (l++[(i:Int)])):=by rw [qS];exact os'
   have ih':=ih (l++[(i:Int)]) s' (D.stepI st l.length i) h5 (by simp;omega) (by simpa using hba.1 qb) os5 hs' X5
   refine ih'.to ?_
   rintro b g6 ⟨rfl,⟨w,rows,a,y1,y2,y3,y4,y5,y6,y7⟩,y8⟩
   refine zr (fun _=>?_) (fun q=>by cases q)
   refine ⟨_,rfl,rfl,⟨w,rows,a,y1,y2,y3,y4,y5,?_,y7⟩,y8⟩
   have ya:a=(l++[(i:Int)]).getD 0 0:=by
    rcases y6 with ⟨_,y6⟩ | ⟨y6,_⟩
    ·exact y6
    ·simp at y6
   cases l with
   | nil=>
    refine .inr ⟨rfl,i,by simpa using ya,by omega,qc,hba.1 qb,hno⟩
   | cons b l=>exact .inl ⟨by simp,by simpa using ya⟩
  ·obtain ⟨j,j1,j2,j3⟩:=(YO (by omega) ha.1).1 ha
   exact absurd ⟨j2,j3⟩ (hno j (by omega))
theorem zNe (hs:setOK c ts) (hp:zJ c ts.length plan borders) (h0:0<(dpOf c ts plan borders).cntZ) {p:Pt} {h:H} (F:Flr c ts plan borders u q bq p h) (vo:Var h oo v0):
  callV SP zIH [.ptr p,.func zIG [.ptr (pt oo)]] h fun v h'=>(∃w rows a,Var h' oo (.sl w)∧RdSS h' w rows∧w.o.isSome=true∧rows.length=plan.length∧1≤(rw_ rows 0).length∧FstP (dpOf c ts plan borders) [] 0 a∧G rows 0 0=a)∧Chg (fun i=>i=oo∨h.length≤i) h h':=by
 obtain ⟨d1,d2,d3,d4,d5,d6,d7,d8,d9⟩:=dims hs hp
 have F0:=F
 obtain ⟨fo,pw,cn,al,rfl,ob,f,av,_⟩:=F
 have hq:=f.rq.len
 apply zCm
 unfold zcT
 refine yQ fun h1 vf x1 n1=>?_
 refine yy (fun _=>?_) (fun q=>by cases q)
 refine yQ fun h2 vv x2 n2=>?_
 have X2:=x1.trans x2
 refine (vf.ext x2).ldP ⟨rfl,rfl,(ob.ext X2).ldS (i:=2) rfl rfl ?_⟩
 refine (f.rq.ext X2).ldG (i:=0) (by omega) (by omega) fun v rv lv=>?_
 replace lv:v.len=(rw_ plan 0).length:=lv
 refine yQ fun h3 vw x3 n3=>?_
 refine vw.st _ fun h4 vw4 b4 n4=>?_
 have x34:Ext h2 h4:=x3.but_ b4 (zi (Nat.le_refl _))
 refine yQ fun h5 vl x5 n5=>?_
 refine vl.st _ fun h6 vl6 b6 n6=>?_
 have x56:Ext h4 h6:=x5.but_ b6 (zi (Nat.le_refl _))
 have X26:=x34.trans x56
 have X6:=X2.trans X26
 rw [lv] at vw4
 have vf6:=(vf.ext x2).ext X26
 have E:FE c ts plan borders u q bq pw cn al fo h.length h2.length h1.length h4.length oo h6:=⟨ob.ext X6,f.ext X6,av.ext X6,vf6,vw4.ext x56,vv.ext X26,vl6⟩
 refine vf6.ldP ?_
 have F6:Flr c ts plan borders u q bq ⟨some fo,7,0⟩ h6:=by
  obtain ⟨fo',pw',cn',al',e,ob',f',av',ct'⟩:=F0
  exact ⟨fo',pw',cn',al',e,ob'.ext X6,f'.ext X6,av'.ext X6,ct'.ext X6⟩
 refine zgq hs hp F6 fun b hb=>?_
 refine yy (fun _=>?_) (fun q=>by rw [hb.2 h0] at q;cases q)
 refine vl6.ldV (yz ?_)
 have ok:=wF hs hp
 have ha:(dpOf c ts plan borders).alive ([]:List Int).length 0:=(Dp.alive_zero ok).2 (Dp.cntZ_pos.1 h0)
 refine (zLp hs hp E (vo.ext X6) (dpOf c ts plan borders).size [] Sl.nil 0 h6 (by simp) ha (Ow.nil _ _) (fun i e=>by cases e) (Ext.refl _)).to ?_
 rintro b' h7 ⟨_,r,ch⟩
 exact ⟨r,((X6.chg _).trans (ch.to fun i _ e=>e.imp id fun e=>by have:=X6.len;omega))⟩
theorem Zh {h:H} (r:Rd h u 4 (tcs ts)) (rr:RdSS h q plan) (rb:RdSS h bq borders) (sz:ts.length≤1048576) (szr:plan.length≤1048576) (hrs:∀l∈plan,l.length≤1048576) (szb:borders.length≤1048576) (hrb:∀l∈borders,l.length≤1048576)
  (hs:setOK c ts) (hp:zJ c ts.length plan borders) (h0:0<(dpOf c ts plan borders).cntZ):
  callV SP zIU [.agg (SetC c u),.sl q,.sl bq] h fun v h'=>(∃w rows a,v = .tuple [.sl w,i64 0]∧RdSS h' w rows∧rows.length=plan.length∧1≤(rw_ rows 0).length∧FstP (dpOf c ts plan borders) [] 0 a∧G rows 0 0=a)∧Ext h h':=by
 apply zDe
 unfold zew
 refine zk fun h1 o1 x1 l1=>?_
 refine o1.ldA rfl ?_
 refine (qq (r.ext x1) (rr.ext x1) (rb.ext x1) sz szr hrs szb).to ?_
 rintro _ h2 ⟨rfl,x2⟩
 have X2:=x1.trans x2
 refine zF (fun hq=>absurd (planCodeF_zero.2 ⟨hs,hp⟩) hq) (fun hq=>?_)
 refine yQ fun h3 v3 x3 n3=>?_
 refine v3.st _ fun h4 v4 b4 n4=>?_
 have x34:Ext h2 h4:=x3.but_ b4 (zi (Nat.le_refl _))
 have X4:=X2.trans x34
 refine (o1.ext (x2.trans x34)).ldA rfl ?_
 refine (zcu hs hp (r.ext X4) (rr.ext X4) (rb.ext X4)).to ?_
 rintro p h5 ⟨F,x5⟩
 refine (zNe hs hp h0 F (v4.ext x5)).to ?_
 rintro v h6 ⟨⟨w,rows,a,y1,y2,y3,y4⟩,c6⟩
 refine y1.ldS ?_
 refine yy (fun q=>?_) (fun _=>?_)
 ·unfold ZK at q
  cases e:w.o with
  | none=>rw [e] at y3;cases y3
  | some i=>rw [e] at q;cases q
 refine y1.ldS ?_
 exact ⟨⟨w,rows,a,rfl,y2,y4⟩,(X4.trans x5).chg_ c6 fun i e=>by have:=X2.len;have:=(X4.trans x5).len;omega⟩
end
end Go.Proofs.YtlcgclmobfdbcaaGreat.Cl
set_option linter.unusedVariables false
set_option linter.unusedSimpArgs false
namespace Go.Proofs.YtlcgclmobfdbcaaGreat.Cl
open Go
section
variable {c:Int} {ts:List Tile} {plan borders:List (List Int)} {D:Dp}
theorem at_zero {i:Nat}:D.at_ 0 i↔D.alive 0 0∧D.can 0 0 i=true∧D.alive 1 (D.stepI 0 0 i):=by
 unfold Dp.at_
 constructor
 ·rintro ⟨s,h1,h2,h3⟩
  have:s=0:=h1.1
  subst this
  exact ⟨h1,h2,h3⟩
 ·rintro ⟨h1,h2,h3⟩
  exact ⟨0,h1,h2,h3⟩
theorem zEB {p i:Nat} (hi:D.at_ p i) (hno:∀j,j<i→¬D.at_ p j):∀k,i<k→1≤(atL D p k).length∧(atL D p k).getD 0 0=(i:Int):=by
 have h0:∀k,k≤i→atL D p k=[]:=by
  intro k
  induction k with
  | zero=>intro _;unfold atL;rfl
  | succ k ih=>intro hk;rw [Xu,ih (by omega),if_neg (hno k (by omega))];rfl
 intro k
 induction k with
 | zero=>intro h;omega
 | succ k ih=>
  intro hk
  rw [Xu]
  by_cases e:k=i
  ·subst e
   rw [h0 k (Nat.le_refl _),if_pos hi]
   exact ⟨Nat.le_refl _,rfl⟩
  ·obtain ⟨a,b⟩:=ih (by omega)
   rw [List.length_append]
   refine ⟨by omega,?_⟩
   rw [List.getD_eq_getElem?_getD,List.getElem?_append_left (by omega),←List.getD_eq_getElem?_getD]
   exact b
theorem zMa {a:Int} (h0:D.alive 0 0) (h:FstP D [] 0 a):1≤(atL D 0 D.n).length∧(atL D 0 D.n).getD 0 0=a:=by
 rcases h with ⟨h,_⟩ | ⟨_,i,rfl,hi,h1,h2,h3⟩
 ·exact absurd rfl h
 ·exact zEB (at_zero.2 ⟨h0,h1,h2⟩) (fun j hj q=>h3 j hj ⟨(at_zero.1 q).2.1,(at_zero.1 q).2.2⟩) _ hi
theorem zBh {p:Nat}:(atL D p D.n).length=1↔0≤sameAt D p:=by
 unfold sameAt
 constructor
 ·intro h
  rw [if_pos h]
  obtain ⟨a,ha⟩:=List.length_eq_one_iff.1 h
  rw [ha]
  have:a∈atL D p D.n:=by rw [ha];simp
  obtain ⟨i,e,_⟩:=mem_atL.1 this
  show (0:Int)≤a
  omega
 ·intro h
  split at h
  ·next q=>exact q
  ·omega
theorem zBi (h:zn c ts plan borders=0):setOK c ts∧zJ c ts.length plan borders∧0<(dpOf c ts plan borders).cntZ∧zt c ts plan borders=samP c ts plan borders∧zgn c ts (samP c ts plan borders) borders=zgn c ts plan borders:=by
 have h':=h
 unfold zn at h
 split at h
 ·next hq=>
  split at h
  ·next hl=>
   obtain ⟨hs,hp⟩:=planCodeF_zero.1 hq
   refine ⟨hs,hp,Dp.cntZ_pos.2 hl,?_,?_⟩
   ·unfold zt;rw [if_pos h'];rfl
   ·unfold zgn
    rw [if_pos hq,if_pos (planCodeF_zero.2 ⟨hs,zqv hs hp⟩),Dp.cnt_same (zqw hs hp hl)]
  ·omega
 ·next hq=>exact absurd h hq
theorem zIg (hs:setOK c ts) {m k:Nat} (hm:0<m) (hk:m≤k) (h5:k≤5) (h:0<(yM c ts k k).cntZ):0<(yM c ts m m).cntZ:=by
 rw [Dp.cntZ_pos,Dp.left_fill] at h ⊢
 obtain ⟨L,hL⟩:=h
 obtain ⟨h1,h2,h3,h4⟩:=(zaY hs (by omega) h5 L).1 hL
 have hg:∀{y x:Nat},y<m→x<m→((List.range (m*m)).map fun q=>L.getD (q/m*k+q%m) 0).getD (y*m+x) 0=L.getD (y*k+x) 0:=fun {y x} hy hx=>by
  rw [List.getD_eq_getElem?_getD,List.getElem?_map,List.getElem?_range (xF hy hx)]
  obtain ⟨e1,e2⟩:=zw (y:=y) hx
  show L.getD ((y*m+x)/m*k+(y*m+x)%m) 0=_
  rw [e1,e2]
 have ht:∀{y x:Nat},y<m→x<m→tl_ ts ((List.range (m*m)).map fun q=>L.getD (q/m*k+q%m) 0) (y*m+x)=tl_ ts L (y*k+x):=fun {y x} hy hx=>by
  unfold tl_
  rw [hg hy hx]
 refine ⟨(List.range (m*m)).map fun q=>L.getD (q/m*k+q%m) 0,(zaY hs hm (by omega) _).2 ⟨by simp,fun q hq=>?_,fun y x hy hx=>?_,fun y x hy hx=>?_⟩⟩
 ·rw [List.getD_eq_getElem?_getD,List.getElem?_map,List.getElem?_range hq]
  show L.getD (q/m*k+q%m) 0<_
  refine h2 _ (xF ?_ ?_)
  ·have:q/m<m:=by rw [Nat.div_lt_iff_lt_mul hm];exact hq
   omega
  ·have:=Nat.mod_lt q hm
   omega
 ·rw [ht (by omega) hx,ht hy hx]
  exact h3 y x (by omega) (by omega)
 ·rw [ht hy (by omega),ht hy hx]
  exact h4 y x (by omega) (by omega)
theorem zIY (hs:setOK c ts) {n:Nat} (g:GrN c ts n) {k:Nat} (k1:1≤k) (k3:k≤3):sizC c ts k k=1↔k≤n:=by
 obtain ⟨g1,g2,g3⟩:=g
 unfold sizC
 constructor
 ·intro h
  split at h
  ·next q=>
   rcases Nat.lt_or_ge n k with hn | hn
   ·exact absurd (zIg hs (by omega) (show n+1≤k by omega) (by omega) q) (g3 (by omega))
   ·exact hn
  ·omega
 ·intro h
  have:=g2 (k-1) (by omega)
  rw [show k-1+1=k by omega] at this
  rw [if_pos this]
theorem zLF (h:yf (setOK c ts) True=0) {k:Nat} (k1:1≤k) (k3:k≤3):(zv c ts).length=3∧(rw_ (zv c ts) (k-1)).length=3∧G (zv c ts) (k-1) (k-1)=sizC c ts k k:=by
 unfold zv
 rw [if_pos h]
 have e:rw_ (sizT c ts 3) (k-1)=sizR c ts (k-1):=by
  unfold rw_ sizT
  rw [List.getD_eq_getElem?_getD,List.getElem?_map,List.getElem?_range (by omega)];rfl
 unfold G
 rw [e]
 refine ⟨by unfold sizT;simp,by unfold sizR;simp,?_⟩
 unfold sizR
 rw [List.getD_eq_getElem?_getD,List.getElem?_map,List.getElem?_range (by omega)]
 show sizC c ts (k-1+1) (k-1+1)=_
 rw [show k-1+1=k by omega]
end
end Go.Proofs.YtlcgclmobfdbcaaGreat.Cl
