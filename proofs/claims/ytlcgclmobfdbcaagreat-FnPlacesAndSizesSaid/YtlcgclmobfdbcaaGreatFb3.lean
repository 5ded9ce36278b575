/- Contracts of functions, joined. No claim is stated here. -/
import Derived.Test.YtlcgclmobfdbcaaGreatFb1
import Derived.Test.YtlcgclmobfdbcaaGreatFb2
import Derived.Test.YtlcgclmobfdbcaaGreatFa2
import Derived.Test.YtlcgclmobfdbcaaGreatFb0
set_option linter.unusedVariables false
set_option linter.unusedSimpArgs false
namespace Go.Proofs.YtlcgclmobfdbcaaGreat.Cl
open Go
theorem zLL {h:H} {s:Sl} {l:List Int} {x:Int} (r:Ow h s 1 (ic l)) (hl:(l.length:Int)+1≤lim) {K:Sl→H→Prop}
  (hk:∀s' h',Ow h' s' 1 (ic (l++[x]))→But s.o h h'→(∀o,s.o=some o→s'.o=some o)→K s' h'):newS 1 1 [.int .i64 x] h fun t h1=>app s t 1 h1 K:=by
 refine zj (by rfl) fun t h1 ot tl to e1=>?_
 have e1':Ext h h1:=by rw [e1];exact Ext.app _ _
 have hsl:=r.rd.ilen
 exact yk (by omega) (r.ext e1') ot.rd (by rw [tl,hsl];exact_mod_cast hl) fun s' h' o' ln b k1 k2=>hk s' h' (by rw [qS];exact o') ((e1'.but _).trans b) k1
abbrev Asc (l:List Int):Prop:=l.Pairwise (· < ·)
theorem zLq {α :Type} {l:List α} {i:Nat} (h:i<l.length):l.drop i=l[i]::l.drop (i+1):=List.drop_eq_getElem_cons h
structure Mrg (A B out:List Int) (i k:Nat):Prop where
 i1:i≤A.length
 k1:k≤B.length
 asc:Asc out
 lt:∀x∈out,(∀y∈A.drop i,x<y)∧∀y∈B.drop k,x<y
 mem:∀x,(x∈out∨x∈A.drop i∨x∈B.drop k)↔(x∈A∨x∈B)
 len:out.length≤i+k
theorem zEC {out:List Int} (h:Asc out) {x:Int} (hx:∀y∈out,y<x):Asc (out++[x]):=
 List.pairwise_append.2 ⟨h,List.pairwise_singleton _ _,fun a ha b hb=>by rw [List.mem_singleton.1 hb];exact hx a ha⟩
theorem Mrg.symm {A B out:List Int} {i k:Nat} (m:Mrg A B out i k):Mrg B A out k i:=
 ⟨m.k1,m.i1,m.asc,fun x hx=>⟨(m.lt x hx).2,(m.lt x hx).1⟩,fun x=>by have:=m.mem x;rw [or_comm (a:=x∈B),←this];rw [or_comm (a:=x∈B.drop k)],by have:=m.len;omega⟩
theorem Mrg.left {A B out:List Int} {i k:Nat} (m:Mrg A B out i k) (ha:Asc A) (hi:i<A.length) (hlt:∀y∈B.drop k,A[i]<y):Mrg A B (out++[A[i]]) (i+1) k:=by
 have hd:=zLq hi
 have hsub:Asc (A.drop i):=List.Pairwise.sublist (List.drop_sublist _ _) ha
 rw [hd] at hsub
 have hp:=(List.pairwise_cons.1 hsub).1
 refine ⟨hi,m.k1,zEC m.asc fun y hy=>(m.lt y hy).1 _ (by rw [hd];exact List.mem_cons_self),fun x hx=>?_,fun x=>?_,by have:=m.len;simp;omega⟩
 ·rcases List.mem_append.1 hx with h | h
  ·exact ⟨fun y hy=>(m.lt x h).1 y (by rw [hd];exact List.mem_cons_of_mem _ hy),(m.lt x h).2⟩
  ·rw [List.mem_singleton.1 h];exact ⟨hp,hlt⟩
 ·rw [←m.mem x,hd]
  simp only [List.mem_append,List.mem_cons,List.mem_singleton,List.not_mem_nil,or_false]
  constructor
  ·rintro ((h | h) | h | h)
   ·exact .inl h
   ·exact .inr (.inl (.inl h))
   ·exact .inr (.inl (.inr h))
   ·exact .inr (.inr h)
  ·rintro (h | (h | h) | h)
   ·exact .inl (.inl h)
   ·exact .inl (.inr h)
   ·exact .inr (.inl h)
   ·exact .inr (.inr h)
theorem Mrg.right {A B out:List Int} {i k:Nat} (m:Mrg A B out i k) (hb:Asc B) (hk:k<B.length) (hlt:∀y∈A.drop i,B[k]<y):Mrg A B (out++[B[k]]) i (k+1):=(m.symm.left hb hk hlt).symm
end Go.Proofs.YtlcgclmobfdbcaaGreat.Cl
set_option linter.unusedVariables false
set_option linter.unusedSimpArgs false
namespace Go.Proofs.YtlcgclmobfdbcaaGreat.Cl
open Go
structure Pre (h:H) (s:Sl) (z:Nat) (cs:List AVal):Prop where
 len:cs.length=s.len*z
 at_:(s.o=none∧s.len=0)∨(∃o xs m,s.o=some o∧s.sz=z∧s.off=0∧s.n=m*z∧xs.length=m*z∧s.len≤m∧h[o]? = some (.own xs)∧xs.take (s.len*z)=cs)
theorem Pre.nil (h:H) (z:Nat):Pre h Sl.nil z []:=⟨by simp [Sl.nil],.inl ⟨rfl,rfl⟩⟩
theorem Ow.pre {h s z cs} (r:Ow h s z cs):Pre h s z cs:=by
 refine ⟨r.len,?_⟩
 obtain ⟨a,b⟩ | ⟨o,a,b,c,d,e⟩:=r.at_
 ·exact .inl ⟨a,b⟩
 ·refine .inr ⟨o,cs,s.len,a,b,c,d,r.len,Nat.le_refl _,e,?_⟩
  rw [←r.len,List.take_length]
theorem Pre.rd {h s z cs} (r:Pre h s z cs):Rd h s z cs:=by
 refine ⟨r.len,?_⟩
 obtain ⟨a,b⟩ | ⟨o,xs,m,a,b,c,d,e,f,g,k⟩:=r.at_
 ·exact .inl b
 ·have hm:s.len*z≤m*z:=Nat.mul_le_mul_right _ f
  refine .inr ⟨b,by simp [a],?_⟩
  rw [a,yX (xs:=xs) (by unfold cells;simp [g,d,e]) (by omega),c,List.drop_zero,k]
theorem Pre.chg {P} {h h':H} {s z cs} (r:Pre h s z cs) (b:Chg P h h') (hn:∀i,s.o=some i→¬P i):Pre h' s z cs:=
 ⟨r.len,r.at_.imp id fun ⟨o,xs,m,a,b',c,d,e,f,g,k⟩=>⟨o,xs,m,a,b',c,d,e,f,b.get g (hn o a),k⟩⟩
theorem Pre.ext {h h':H} {s z cs} (r:Pre h s z cs) (x:Ext h h'):Pre h' s z cs:=r.chg (x.chg fun _=>False) fun _ _ f=>f
theorem Pre.but {o:Option Nat} {h h':H} {s z cs} (r:Pre h s z cs) (b:But o h h') (hn:∀i,s.o=some i→o≠some i):Pre h' s z cs:=
 r.chg (b.chg (P:=fun i=>o=some i) fun i e=>e) hn
theorem Pre.lt {h s z cs} (r:Pre h s z cs) {o:Nat} (e:s.o=some o):o<h.length:=by
 obtain ⟨a,_⟩ | ⟨i,xs,m,a,_,_,_,_,_,g,_⟩:=r.at_
 ·rw [a] at e;cases e
 ·rw [a] at e;cases e;exact (List.getElem?_eq_some_iff.1 g).1
theorem Pre.ok {h s z cs} (r:Pre h s z cs):okS h s:=by
 unfold okS
 obtain ⟨a,_⟩ | ⟨i,xs,m,a,_,_,d,e,_,g,_⟩:=r.at_
 ·rw [a];trivial
 ·rw [a];unfold cells;simp [g,d,e]
end Go.Proofs.YtlcgclmobfdbcaaGreat.Cl
set_option linter.unusedVariables false
set_option linter.unusedSimpArgs false
namespace Go.Proofs.YtlcgclmobfdbcaaGreat.Cl
open Go
section
variable {h0:H} {s:Sl} {l:List Tile} {ps:Nat}
theorem zgE (hv:Var h0 ps (.sl s)) (r:Rd h0 s 4 (tcs l)) (hl:l.length≤1000000):
  callS SP zrC [.func zbr [.ptr (pt ps)],.func qV []] h0 fun u h'=>∃l',Ow h' u 4 (tcs l')∧l'.Perm l∧l'.Pairwise (fun a b=>¬ltT b a)∧Fr h0.length u∧Ext h0 h':=by
 apply zwG
 unfold WK
 have hc:callS SP zrv [.func zbr [.ptr (pt ps)]] h0 fun u h'=>Ow h' u 4 (tcs l)∧Fr h0.length u∧Ext h0 h':=by
  apply zwg
  unfold Wx
  refine (zlh hv r hl).to ?_
  rintro u h' ⟨o,f,x,_⟩
  exact ⟨u,rfl,o,f,x⟩
 refine hc.to ?_
 rintro u h1 ⟨o1,f1,x1⟩
 refine (zIi o1 (by omega)).to ?_
 rintro v h2 ⟨rfl,l',o2,hp,hs,b2,ln⟩
 exact ⟨u,rfl,l',o2,hp,hs,f1,x1.but_ b2 fun o e=>f1 o e⟩
def cmpl:List Tile→List Tile
 | []=>[]
 | [a]=>[a]
 | a::b::l=>if a=b then cmpl (b::l) else a::cmpl (b::l)
theorem mem_cmpl {x:Tile}:∀{l:List Tile},x∈cmpl l↔x∈l
 | []=>Iff.rfl
 | [a]=>Iff.rfl
 | a::b::l=>by
  have ih:=mem_cmpl (x:=x) (l:=b::l)
  unfold cmpl
  split
  ·next h=>subst h;rw [ih];simp
  ·rw [List.mem_cons,ih,List.mem_cons (l:=b::l)]
theorem zqK:∀{l:List Tile},l.Pairwise (fun a b=>¬ltT b a)→(cmpl l).Pairwise ltT
 | [],_=>List.Pairwise.nil
 | [a],_=>by simp [cmpl]
 | a::b::l,h=>by
  have h1:=List.pairwise_cons.1 h
  have ih:=zqK h1.2
  unfold cmpl
  split
  ·exact ih
  ·next hne=>
   refine List.pairwise_cons.2 ⟨fun x hx=>?_,ih⟩
   have hab:ltT a b:=(ltT_sto.tri a b hne).resolve_right (h1.1 b (by simp))
   rcases List.mem_cons.1 (mem_cmpl.1 hx) with rfl | hx'
   ·exact hab
   ·have h2:=(List.pairwise_cons.1 h1.2).1 x hx'
    by_cases e:b=x
    ·rw [←e];exact hab
    ·exact ltT_sto.trans _ _ _ hab ((ltT_sto.tri b x e).resolve_right h2)
theorem zgo:∀(l:List Tile) (a x:Tile),cmpl (l++[a,x])=if a=x then cmpl (l++[a]) else cmpl (l++[a])++[x]
 | [],a,x=>by
  simp only [List.nil_append,cmpl]
  split <;> simp_all
 | [b],a,x=>by
  have ih:=zgo [] a x
  simp only [List.nil_append,List.cons_append] at ih ⊢
  rw [cmpl,ih]
  conv=>rhs;rw [cmpl]
  by_cases h1:b=a
  ·simp [h1]
  ·simp only [if_neg h1]
   by_cases h2:a=x
   ·rw [if_pos h2,if_pos h2]
   ·rw [if_neg h2,if_neg h2];simp
 | b::c::l,a,x=>by
  have ih:=zgo (c::l) a x
  simp only [List.cons_append] at ih ⊢
  rw [cmpl,ih]
  conv=>rhs;rw [cmpl]
  by_cases h1:b=c
  ·simp [h1]
  ·simp only [if_neg h1]
   by_cases h2:a=x
   ·rw [if_pos h2,if_pos h2]
   ·rw [if_neg h2,if_neg h2];simp
theorem ziB {l:List Tile} {k:Nat} (h0:1≤k) (hk:k<l.length):cmpl (l.take (k+1))=if l[k-1]'(by omega)=l[k] then cmpl (l.take k) else cmpl (l.take k)++[l[k]]:=by
 obtain ⟨j,rfl⟩:∃j,k=j+1:=⟨k-1,by omega⟩
 have e1:l.take (j+1+1)=l.take j++[l[j],l[j+1]]:=by
  rw [List.take_succ_eq_append_getElem hk,List.take_succ_eq_append_getElem (show j<l.length by omega),List.append_assoc]
  rfl
 have e2:l.take (j+1)=l.take j++[l[j]]:=List.take_succ_eq_append_getElem (by omega)
 rw [e1,e2]
 exact zgo _ _ _
theorem zAR (r:Ow h0 s 4 (tcs l)) (hl:l.length≤1000000):
  callS SP zrA [.sl s] h0 fun u h'=>Pre h' u 4 (tcs (cmpl l))∧But s.o h0 h'∧(∀o,u.o=some o→s.o=some o)∧h'.length=h0.length:=by
 have hsl:=r.rd.tlen
 apply zwz
 unfold WH
 refine zc (fun h2=>?_) (fun h2=>?_)
 ·have:cmpl l=l:=by
   match l,hsl,h2 with
   | [],_,_=>rfl
   | [a],_,_=>rfl
   | a::b::m,e,h2=>simp at e;omega
  exact ⟨s,rfl,by rw [this];exact r.pre,⟨Nat.le_refl _,fun _ _ _=>rfl⟩,fun o e=>e,rfl⟩
 obtain ⟨o,hso⟩:∃o,s.o=some o:=by
  obtain ⟨a,b⟩ | ⟨o,a,_⟩:=r.at_
  ·omega
  ·exact ⟨o,a⟩
 refine znZ _ _ _ (fun i h=>∃k:Nat,i=k∧1≤k∧k≤l.length∧h=h0∧cmpl (l.take k)=l.take k) (fun i _=>(l.length-i).toNat) ?_ _ ⟨1,rfl,by omega,by omega,rfl,?_⟩
 rotate_left
 ·match l,hsl with
  | [],_=>rfl
  | a::m,_=>rfl
 rintro X0 _ h ⟨k,rfl,k1,k2,rfl,hk⟩ hX
 unfold zjU zwE
 refine zc (fun hi=>?_) (fun hi=>?_)
 rotate_left
 ·rw [show k=l.length by omega,List.take_length] at hk
  exact ⟨s,rfl,by rw [hk];exact r.pre,⟨Nat.le_refl _,fun _ _ _=>rfl⟩,fun o e=>e,rfl⟩
 have hkl:k<l.length:=by omega
 have tatN:∀{B:List Tile} {j:Nat} (hj:j<B.length),tat B (j:Int)=B[j]:=fun {B j} hj=>Xz (by rw [Int.toNat_natCast,List.getElem?_eq_getElem hj])
 refine r.rd.tileG (by omega) (by omega) ?_
 rw [zf (n:=(k:Int)-1) (by omega) (by omega),show (k:Int)-1=((k-1:Nat):Int) by omega]
 refine r.rd.tileG (by omega) (by omega) (zAs ?_)
 rw [tatN hkl,tatN (show k-1<l.length by omega)]
 have hct:=ziB k1 hkl
 refine zc (fun he=>?_) (fun he=>?_)
 rotate_left
 ·unfold zwD
  rw [zf (n:=(k:Int)+1) (by omega) (by omega)]
  refine hX _ _ ⟨k+1,by push_cast;rfl,by omega,by omega,rfl,?_⟩ (by omega)
  rw [hct,if_neg (fun e=>he e.symm),hk,List.take_succ_eq_append_getElem hkl]
 rw [if_pos he.symm,hk] at hct
 refine r.cutV hso (by omega) (by omega) (by omega) ?_
 rw [Int.toNat_natCast,show ((s.len:Int)-(k:Int)).toNat=l.length-k by omega]
 refine znY _ _ X0 _ _ (fun a b g=>∃(kk k2:Nat) (A:List Tile),a=kk∧b=k2∧1≤k2∧k+k2≤l.length∧Ow g s 4 (tcs A)∧A.length=l.length∧kk≤k+k2-1∧A.take kk=cmpl (l.take (k+k2))∧kk=(cmpl (l.take (k+k2))).length∧A.drop (k+k2-1)=l.drop (k+k2-1)∧But s.o h g∧g.length=h.length) (fun _ b _=>(l.length-b).toNat) ?_ _ _
  ⟨k,1,l,rfl,rfl,by omega,by omega,r,rfl,by omega,hct.symm,by rw [hct,List.length_take];omega,rfl,⟨Nat.le_refl _,fun _ _ _=>rfl⟩,rfl⟩
 rintro X2 _ _ g ⟨kk,q,A,rfl,rfl,q1,q2,rA,hA,hkk,ht,hkl2,hd,hbut,hgl⟩ hY
 unfold zjT zwC
 refine zc (fun hj=>?_) (fun hj=>?_)
 ·have hq:k+q<l.length:=by have:(q:Int)<((l.length-k:Nat):Int):=hj;omega
  have rv:=rA.viewT hso (lo:=k) (n:=l.length-k) (by omega)
  have hvl:((A.drop k).take (l.length-k)).length=l.length-k:=by rw [List.length_take,List.length_drop];omega
  have hget:∀j,k+q-1≤k+j→k+j<l.length→((A.drop k).take (l.length-k)).getD j (0,0,0,0)=l.getD (k+j) (0,0,0,0):=fun j h1 h2=>by
   have e1:=congrArg (fun m=>m[k+j-(k+q-1)]?) hd
   simp only [List.getElem?_drop] at e1
   rw [List.getD_eq_getElem?_getD,List.getD_eq_getElem?_getD,List.getElem?_take,if_pos (by omega),List.getElem?_drop]
   rw [show k+q-1+(k+j-(k+q-1))=k+j by omega] at e1
   rw [e1]
  have ld:∀j:Nat,k+q-1≤k+j→k+j<l.length→tat ((A.drop k).take (l.length-k)) (j:Int)=tat l ((k+j:Nat):Int):=fun j h1 h2=>by
   unfold tat
   rw [Int.toNat_natCast,Int.toNat_natCast]
   exact hget j h1 h2
  refine rv.tileG (by omega) (by rw [hvl];omega) ?_
  rw [zf (n:=(q:Int)-1) (by omega) (by omega),show (q:Int)-1=((q-1:Nat):Int) by omega]
  refine rv.tileG (by omega) (by rw [hvl];omega) (zAs ?_)
  rw [ld q (by omega) hq,ld (q-1) (by omega) (by omega),tatN hq,tatN (show k+(q-1)<l.length by omega)]
  have hct2:=ziB (l:=l) (k:=k+q) (by omega) hq
  have hst:((q:Int)+1)=((q+1:Nat):Int):=by push_cast;rfl
  rw [zf (n:=(q:Int)+1) (by omega) (by omega)]
  have hidx:l[k+(q-1)]'(by omega)=l[k+q-1]'(by omega):=by congr 1;omega
  refine zr (fun he=>?_) (fun he=>?_)
  ·have he:=of_decide_eq_false he
   refine rv.tileG (by omega) (by rw [hvl];omega) ?_
   rw [ld q (by omega) hq,tatN hq]
   refine rA.stA (by omega) (by omega) (tc l[k+q]) rfl fun g' rA' b' hl'=>?_
   rw [Int.toNat_natCast,zcl A kk l[k+q] (by omega)] at rA'
   rw [if_neg (fun e=>he (by rw [hidx];exact e.symm))] at hct2
   rw [zf (n:=(kk:Int)+1) (by omega) (by omega)]
   refine hY _ _ _ ⟨kk+1,q+1,A.set kk l[k+q],by push_cast;rfl,hst,by omega,by omega,rA',by rw [List.length_set];exact hA,by omega,?_,?_,?_,hbut.trans b',by omega⟩ (by omega)
   ·rw [show k+(q+1)=k+q+1 by omega,hct2,←ht]
    rw [List.take_succ_eq_append_getElem (by rw [List.length_set];omega),List.getElem_set_self,List.take_set_of_le (Nat.le_refl _)]
   ·rw [show k+(q+1)=k+q+1 by omega,hct2,List.length_append,←hkl2];rfl
   ·rw [show k+(q+1)-1=(k+q-1)+1 by omega,List.drop_set_of_lt (by omega),←List.drop_drop,←List.drop_drop,hd]
  ·have he:=of_decide_eq_true he
   rw [if_pos (by rw [←hidx];exact he.symm)] at hct2
   refine hY _ _ _ ⟨kk,q+1,A,rfl,hst,by omega,by omega,rA,hA,by omega,?_,?_,?_,hbut,hgl⟩ (by omega)
   ·rw [show k+(q+1)=k+q+1 by omega,hct2];exact ht
   ·rw [show k+(q+1)=k+q+1 by omega,hct2];exact hkl2
   ·rw [show k+(q+1)-1=(k+q-1)+1 by omega,←List.drop_drop,←List.drop_drop,hd]
 ·have hq:k+q=l.length:=by have:¬(q:Int)<((l.length-k:Nat):Int):=hj;omega
  rw [hq,List.take_length] at ht hkl2
  have hkk':kk<l.length:=by omega
  refine rA.cutV hso (by omega) (by omega) (by omega) ?_
  rw [Int.toNat_natCast,show ((s.len:Int)-(kk:Int)).toNat=l.length-kk by omega]
  obtain ⟨a,_⟩ | ⟨o',a,b,c,d,e⟩:=rA.at_
  ·rw [hso] at a;cases a
  unfold qY
  rw [if_neg (show ¬(l.length-kk=0) by omega)]
  have hz:(List.replicate (l.length-kk) [i64 0,i64 0,i64 0,i64 0]).flatten=tcs (List.replicate (l.length-kk) (0,0,0,0)):=by
   unfold tcs
   rw [List.map_replicate]
   rfl
  have hzl:(tcs (List.replicate (l.length-kk) ((0,0,0,0):Tile))).length=(l.length-kk)*4:=by rw [xQ,List.length_replicate]
  have hol:o'<g.length:=(List.getElem?_eq_some_iff.1 e).1
  have hsp:yl (tcs A) (kk*4) (tcs (List.replicate (l.length-kk) ((0,0,0,0):Tile)))=tcs (A.take kk++List.replicate (l.length-kk) (0,0,0,0)):=by
   unfold yl
   rw [ZB,Ya,hzl,List.drop_of_length_le (by rw [xQ];omega),List.append_nil]
  refine ⟨g.set o' (.own (tcs (A.take kk++List.replicate (l.length-kk) (0,0,0,0)))),rfl,?_,?_⟩
  ·show putN g s.o s.n (kk*4) (List.replicate (l.length-kk) [i64 0,i64 0,i64 0,i64 0]).flatten=_
   rw [hz,a]
   have hlen:(tcs A).length=s.n:=by rw [xQ,d,hA,hsl]
   simp only [putN,wi,e]
   rw [if_pos hlen]
   simp only [Option.bind_some]
   rw [if_pos (by rw [hzl,xQ];omega),hsp]
  ·have rB:Ow (g.set o' (.own (tcs (A.take kk++List.replicate (l.length-kk) (0,0,0,0))))) s 4 (tcs (A.take kk++List.replicate (l.length-kk) (0,0,0,0))):=⟨by rw [xQ,List.length_append,List.length_take,List.length_replicate];congr 1;omega,.inr ⟨o',a,b,c,d,by simp [hol]⟩⟩
   refine rB.cutV hso (by omega) (by omega) (by omega) ?_
   have e5:(tcs (A.take kk++List.replicate (l.length-kk) (0,0,0,0))).take (kk*4)=tcs (cmpl l):=by rw [ZB,List.take_left' (by rw [List.length_take];omega),ht]
   have hlt:(tcs (A.take kk++List.replicate (l.length-kk) (0,0,0,0))).length=s.len*4:=rB.len
   have rv:Pre (g.set o' (.own (tcs (A.take kk++List.replicate (l.length-kk) (0,0,0,0))))) ⟨s.o,s.n,0,kk,4⟩ 4 (tcs (cmpl l)):=
    ⟨by rw [xQ,←hkl2],.inr ⟨o',_,s.len,a,rfl,rfl,d,hlt,by show kk≤s.len;omega,by simp [hol],e5⟩⟩
   rw [show (0:Int).toNat=0 from rfl,show ((kk:Int)-0).toNat=kk by omega]
   refine ⟨_,rfl,rv,?_,fun o e=>e,by rw [List.length_set];exact hgl⟩
   refine hbut.trans ⟨by rw [List.length_set];omega,fun i hi hne=>by rw [List.getElem?_set,if_neg (fun e=>hne (by rw [a,e]))]⟩
end
end Go.Proofs.YtlcgclmobfdbcaaGreat.Cl
set_option linter.unusedVariables false
set_option linter.unusedSimpArgs false
namespace Go.Proofs.YtlcgclmobfdbcaaGreat.Cl
open Go
theorem zNf {l l':List Tile} (hp:l'.Perm l) (hs:l'.Pairwise fun a b=>¬ltT b a):cmpl l'=dsT l:=
 zmN ltT_sto (zqK hs) fun x=>by rw [mem_cmpl];exact hp.mem_iff
def fitV (c:Int) (l:List Tile):Prop:=c≤6∧(dsT l).length≤16
section
variable {h0:H} {s:Sl} {l:List Tile} {c:Int}
open Classical in
theorem zIj (r:Rd h0 s 4 (tcs l)) (hl:l.length≤1000000):
  callV SP zrL [i64 c,.sl s] h0 fun v h'=>∃u,v = .tuple [.agg [i64 c,.sl u],.bool (decide (fitV c l))]∧Pre h' u 4 (tcs (dsT l))∧Fr h0.length u∧Ext h0 h':=by
 apply zxT
 unfold Vi
 refine zo fun h1 o1 x1 n1=>?_
 have hv:callV SP zrB [.sl s] h1 fun v h'=>v = .func zbr [.ptr (pt h1.length)]∧Var h' h1.length (.sl s)∧Ext h1 h':=by
  apply zwF
  unfold WJ
  exact yQ fun h2 v2 x2 n2=>⟨rfl,v2,x2⟩
 refine hv.to ?_
 rintro _ h2 ⟨rfl,v2,x2⟩
 have X2:=x1.trans x2
 refine (zgE v2 (r.ext X2) hl).to ?_
 rintro u h3 ⟨l',o3,hp,hs,f3,x3⟩
 have hll:=hp.length_eq
 refine (zAR o3 (by omega)).to ?_
 rintro w h4 ⟨rw4,b4,hw,ln4⟩
 rw [zNf hp hs] at rw4
 have X4:Ext h0 h4:=(X2.trans x3).but_ b4 fun o e=>by have:=f3 o e;have:=X2.len;omega
 have hwl:=rw4.rd.tlen
 have o4:Obj h4 h0.length [i64 0,.sl Sl.nil]:=(o1.ext (x2.trans x3)).but b4 (fun e=>by
  have:=f3 _ e
  have:=X2.len
  have:=x1.len
  have:=x2.len
  omega)
 refine zo fun h5 o5 x5 n5=>?_
 refine o5.stA fun h6 o6 b6 n6=>?_
 have y6:Ext h4 h6:=x5.but_ b6 (zi (Nat.le_refl _))
 refine o6.ldA rfl ?_
 refine zh (o6.ldI rfl rfl ?_)
 have ho:=o4.ext y6
 have hol:=o4.lt
 have hdl:=Qv l
 have hfw:Fr h0.length w:=fun o e=>by have:=f3 _ (hw _ e);have:=X2.len;omega
 refine zc (fun hc=>?_) (fun hc=>?_)
 ·refine zh (o6.ldS rfl rfl ?_)
  refine ho.stA fun h7 o7 b7 n7=>?_
  have o67:Obj h7 h4.length [i64 c,.sl w]:=o6.but b7 (fun e=>by have:=Option.some.inj e;omega)
  have hcell:cell h7 (Pt.add ⟨some h4.length,2,0⟩ 1)=cell h6 (Pt.add ⟨some h4.length,2,0⟩ 1):=by rw [o67.cellE (n:=2) rfl,o6.cellE (n:=2) rfl]
  refine ⟨hcell,?_⟩
  refine o7.ldA rfl ⟨w,?_,(rw4.ext y6).but b7 (fun i ei e=>?_),hfw,(X4.trans y6).but_ b7 (zi (Nat.le_refl _))⟩
  ·have:decide ((w.len:Int)≤16)=decide (fitV c l):=by
    rw [decide_eq_decide]
    unfold fitV
    rw [hwl]
    exact ⟨fun h=>⟨hc,by omega⟩,fun h=>by have:=h.2;omega⟩
   rw [this]
  ·have:=f3 _ (hw _ ei)
   have:=X2.len
   have:=x1.len
   have:=x2.len
   have:=Option.some.inj e
   omega
 ·refine ho.stA fun h7 o7 b7 n7=>?_
  refine o7.ldA rfl ⟨w,?_,(rw4.ext y6).but b7 (fun i ei e=>?_),hfw,(X4.trans y6).but_ b7 (zi (Nat.le_refl _))⟩
  ·have:decide (fitV c l)=false:=decide_eq_false fun h=>hc h.1
   rw [this]
  ·have:=f3 _ (hw _ ei)
   have:=X2.len
   have:=x1.len
   have:=x2.len
   have:=Option.some.inj e
   omega
open Classical in
theorem zrb (r:Rd h0 s 4 (tcs l)) (hl:l.length≤1000000):
  callV SP zrX [i64 c,.sl s] h0 fun v h'=>∃u,v = .tuple [.agg (if fitV c l then [i64 c,.sl u] else [i64 0,.sl Sl.nil]),i64 (if fitV c l then 0 else 3)]∧(fitV c l→Pre h' u 4 (tcs (dsT l))∧Fr h0.length u)∧Ext h0 h':=by
 apply zAi
 unfold Qo
 refine zo fun h1 o1 x1 n1=>?_
 refine (zIj (c:=c) (r.ext x1) hl).to ?_
 rintro _ h2 ⟨u,rfl,ru,fu,x2⟩
 refine ⟨_,rfl,_,rfl,_,rfl,_,rfl,?_⟩
 refine zo fun h3 o3 x3 n3=>?_
 refine o3.stA fun h4 o4 b4 n4=>?_
 have y4:Ext h2 h4:=x3.but_ b4 (zi (Nat.le_refl _))
 have ho:=o1.ext (x2.trans y4)
 have X:=(x1.trans x2).trans y4
 by_cases hf:fitV c l
 ·simp only [if_pos hf]
  rw [decide_eq_true hf]
  refine yy (fun e=>by cases e) (fun _=>?_)
  refine o4.ldA rfl ?_
  refine ho.stA fun h5 o5 b5 n5=>?_
  refine o5.ldA rfl ⟨u,rfl,fun _=>?_,X.but_ b5 (zi (Nat.le_refl _))⟩
  exact ⟨(ru.ext y4).but b5 (fun i ei e=>by have:=fu _ ei;have:=Option.some.inj e;omega),fu.le (by omega)⟩
 ·simp only [if_neg hf]
  rw [decide_eq_false hf]
  refine yy (fun _=>?_) (fun e=>by cases e)
  refine ho.stA fun h5 o5 b5 n5=>?_
  exact o5.ldA rfl ⟨u,rfl,fun h=>absurd h hf,X.but_ b5 (zi (Nat.le_refl _))⟩
end
end Go.Proofs.YtlcgclmobfdbcaaGreat.Cl
set_option linter.unusedVariables false
set_option linter.unusedSimpArgs false
namespace Go.Proofs.YtlcgclmobfdbcaaGreat.Cl
open Go
def PwRes (R:Int×Int×List Tile) (h0:H) (v:AVal) (h':H):Prop:=∃u,v = .tuple [.agg (SetC R.2.1 u),i64 R.1]∧Pre h' u 4 (tcs R.2.2)∧Fr h0.length u∧Ext h0 h'
section
variable {h0:H} {s:Sl} {c:Int} {ts:List Tile} {n:Int}
theorem PwRes.err {R:Int×Int×List Tile} {g:H} {o:Nat} {cs:List AVal} (p:Obj g o cs) (hcs:cs.length=2) {k:Int} (hR:R=(k,0,[])) (hx:h0.length≤o) (x:Ext h0 g):
  stN ⟨some o,2,0⟩ 2 [.int .i64 0,.sl Sl.nil] g fun h9=>ldA ⟨some o,2,0⟩ 2 h9 fun cs10=>PwRes R h0 (.tuple [.agg cs10,.int .i64 k]) h9:=by
 refine p.stA (fun h6 o6 b6 n6=>?_) hcs
 refine o6.ldA rfl ⟨Sl.nil,?_,?_,Fr.nil _,x.but_ b6 (zi hx)⟩
 ·rw [hR];rfl
 ·rw [hR];exact Pre.nil _ _
open Classical in
noncomputable def chR (φ :Tile→Tile) (c:Int) (ts:List Tile):Int×Int×List Tile:=if setOK c ts then (0,c,dsT (ts.map φ)) else (1,0,[])
theorem zmQ {φ :Tile→Tile} (h:setOK c ts):chR φ c ts=(0,c,dsT (ts.map φ)):=by unfold chR;rw [if_pos h]
theorem zNj {φ :Tile→Tile} (h:¬setOK c ts):chR φ c ts=(1,0,[]):=by unfold chR;rw [if_neg h]
theorem zlY {φ :Tile→Tile} (h:setOK c ts):fitV c (ts.map φ):=by
 refine ⟨h.1.2,?_⟩
 have h1:=Qv (ts.map φ)
 have h2:=h.2.1
 rw [List.length_map] at h1
 omega
theorem ziE (r:Rd h0 s 4 (tcs ts)) (sz:ts.length≤1048576) (g:Nat) (cap:List AVal) (φ :Tile→Tile)
  (hg:∀t h,Ext h0 h→callA SP g (.agg (tc t)::cap) h fun cs h'=>cs=tc (φ t)∧Ext h h'):
  callV SP zBS [.agg (SetC c s),.func g cap] h0 (PwRes (chR φ c ts) h0):=by
 have hsl:=r.tlen
 apply zCK
 unfold zdM
 refine zk fun h1 o1 x1 n1=>?_
 refine zo fun h2 o2 x2 n2=>?_
 have p1:=o1.ext x2
 have X:=x1.trans x2
 have hx1:=x1.len
 have hx2:=x2.len
 refine p1.ldA rfl ?_
 refine (zgs (c:=c) (r.ext X) (by omega)).to ?_
 rintro b h3 ⟨hb,x3⟩
 have X3:=X.trans x3
 refine zr (fun hq=>PwRes.err (o2.ext x3) rfl (zNj fun h=>by rw [hb.2 h] at hq;cases hq) (by omega) X3) (fun hq=>?_)
 have hs:=hb.1 hq
 have h16:=hs.2.1
 refine zj (by rfl) fun u h4 ou lu uo e4=>?_
 have x4:Ext h3 h4:=by rw [e4];exact Ext.app _ _
 refine zh ((p1.ext (x3.trans x4)).ldS rfl rfl ?_)
 refine ztM _ _ _ _ _ _ _ (fun u i q=>∃z:Nat,i=z∧z≤ts.length∧Ow q u 4 (tcs ((ts.take z).map φ))∧Fr h3.length u∧Ext h3 q) (fun _ i _=>((ts.length:Int)-i).toNat) ?_ _ _ ⟨0,rfl,by omega,by simpa [tcs] using ou,fun o e=>by rw [uo] at e;cases e;omega,x4⟩
 rintro X0 u _ q ⟨z,rfl,hz,ou,fu,y⟩ hX
 have Y:=X3.trans y
 unfold ztO
 refine zc (fun hi=>?_) (fun hi=>?_)
 ·have hzl:z<ts.length:=by omega
  refine (r.ext Y).tileG (by omega) (by omega) ?_
  rw [xm hzl]
  refine zo fun q1 p1 v1 l1=>?_
  refine p1.stA fun q2 p2 d2 l2=>?_
  have v2:Ext q q2:=v1.but_ d2 (zi (Nat.le_refl _))
  refine p2.ldA rfl ?_
  refine yz ?_
  refine (hg _ q2 (Y.trans v2)).to ?_
  rintro _ q3 ⟨rfl,v3⟩
  refine ⟨rfl,?_⟩
  have v23:=v2.trans v3
  have hul:=ou.rd.tlen
  rw [List.length_map,List.length_take] at hul
  refine XH (t:= φ ts[z]) (ou.ext v23) (by rw [List.length_map,List.length_take];unfold lim;omega) fun u' q4 ou4 b4 hu4 l4=>?_
  rw [zf (by omega) (by omega)]
  have hy:=y.len
  have hv:=v23.len
  refine hX _ _ _ ⟨z+1,by push_cast;rfl,by omega,?_,fu.push (h:=q3) (by omega) hu4,(y.trans v23).but_ b4 fun o e=>fu o e⟩ (by omega)
  rw [List.take_succ_eq_append_getElem hzl,List.map_append]
  exact ou4
 ·have hzU:z=ts.length:=by omega
  rw [hzU,List.take_length] at ou
  unfold zGq
  have q1:=p1.ext (x3.trans y)
  have q2:=o2.ext (x3.trans y)
  refine zh (q1.ldI rfl rfl ?_)
  refine (zrb (c:=c) ou.rd (by rw [List.length_map];omega)).to ?_
  rintro _ g1 ⟨w,rfl,hw,y1⟩
  refine ⟨_,rfl,_,rfl,_,rfl,_,rfl,?_⟩
  have hf:fitV c (ts.map φ):=zlY hs
  obtain ⟨pw,fw⟩:=hw hf
  simp only [if_pos hf]
  have hY:=Y.len
  have hy:=y.len
  have hx3:=x3.len
  refine (q2.ext y1).stA fun g2 p2 c2 m2=>?_
  refine p2.ldA rfl ⟨w,by rw [zmQ hs];rfl,?_,fw.le (by omega),(Y.trans y1).but_ c2 (zi (by omega))⟩
  rw [zmQ hs]
  exact pw.but c2 fun i ei e=>by have:=fw _ ei;have:=Option.some.inj e;omega
theorem zqt (t:Tile) {a b d e:Nat} (ha:a<4) (hb:b<4) (hd:d<4) (he:e<4) {h:H}:callA SP zBR [.agg (tc t),i64 a,i64 b,i64 d,i64 e] h fun r h'=>r=tc (sd t a,sd t b,sd t d,sd t e)∧Ext h h':=by
 apply zCJ
 unfold zdK
 refine zk fun h1 o1 x1 n1=>?_
 refine zo fun h2 o2 x2 n2=>?_
 have p1:=o1.ext x2
 refine p1.sdI (by omega) (by omega) ?_
 refine p1.sdI (by omega) (by omega) ?_
 refine p1.sdI (by omega) (by omega) ?_
 refine p1.sdI (by omega) (by omega) ?_
 simp only [Int.toNat_natCast]
 refine o2.stA fun h3 o3 b3 n3=>?_
 refine o3.ldA rfl ⟨_,rfl,rfl,(x1.trans x2).but_ b3 (zi (by have:=x1.len;omega))⟩
theorem setOK.img {φ :Tile→Tile} (h:setOK c ts) (hφ :∀t k,k<4→∃j,j<4∧sd (φ t) k=sd t j):setOK c (dsT (ts.map φ)):=by
 have hf:=zlY (φ := φ) h
 refine Xh h.1.1 h.1.2 hf.2 (qm ltT_sto _) fun t ht k hk=>?_
 obtain ⟨a,ha,rfl⟩:=List.mem_map.1 (mem_dsort.1 ht)
 obtain ⟨j,hj,e⟩:=hφ a k hk
 rw [e]
 exact h.ts.2 a ha j hj
end
def trd (t:Tile):Tile:=(sd t 3,sd t 0,sd t 1,sd t 2)
def fld (t:Tile):Tile:=(sd t 0,sd t 3,sd t 2,sd t 1)
theorem zgw (t:Tile) (k:Nat) (hk:k<4):∃j,j<4∧sd (trd t) k=sd t j:=by
 have hk':k=0∨k=1∨k=2∨k=3:=by omega
 rcases hk' with rfl | rfl | rfl | rfl
 ·exact ⟨3,by omega,rfl⟩
 ·exact ⟨0,by omega,rfl⟩
 ·exact ⟨1,by omega,rfl⟩
 ·exact ⟨2,by omega,rfl⟩
theorem zho (t:Tile) (k:Nat) (hk:k<4):∃j,j<4∧sd (fld t) k=sd t j:=by
 have hk':k=0∨k=1∨k=2∨k=3:=by omega
 rcases hk' with rfl | rfl | rfl | rfl
 ·exact ⟨0,by omega,rfl⟩
 ·exact ⟨3,by omega,rfl⟩
 ·exact ⟨2,by omega,rfl⟩
 ·exact ⟨1,by omega,rfl⟩
theorem zIb {a b:Tile} (h:trd a=trd b):a=b:=by
 obtain ⟨a0,a1,a2,a3⟩:=a
 obtain ⟨b0,b1,b2,b3⟩:=b
 simp only [trd,sd,Prod.mk.injEq] at h ⊢
 omega
theorem zJb {a b:Tile} (h:fld a=fld b):a=b:=by
 obtain ⟨a0,a1,a2,a3⟩:=a
 obtain ⟨b0,b1,b2,b3⟩:=b
 simp only [fld,sd,Prod.mk.injEq] at h ⊢
 omega
section
variable {h0:H} {s:Sl} {c:Int} {ts:List Tile}
theorem zLz (t:Tile) (h:H):callA SP zsb [.agg (tc t)] h fun cs h'=>cs=tc (trd t)∧Ext h h':=by
 apply zAp
 unfold Qt
 refine zk fun h1 o1 x1 n1=>?_
 refine zo fun h2 o2 x2 n2=>?_
 refine (o1.ext x2).ldA rfl ?_
 refine (zqt t (a:=3) (b:=0) (d:=1) (e:=2) (by omega) (by omega) (by omega) (by omega)).to ?_
 rintro _ h3 ⟨rfl,x3⟩
 refine (o2.ext x3).stA fun h4 o4 b4 n4=>?_
 refine o4.ldA rfl ⟨_,rfl,rfl,((x1.trans x2).trans x3).but_ b4 (zi (by have:=x1.len;omega))⟩
theorem znv (t:Tile) (h:H):callA SP zsa [.agg (tc t)] h fun cs h'=>cs=tc (fld t)∧Ext h h':=by
 apply zAo
 unfold Qs
 refine zk fun h1 o1 x1 n1=>?_
 refine zo fun h2 o2 x2 n2=>?_
 refine (o1.ext x2).ldA rfl ?_
 refine (zqt t (a:=0) (b:=3) (d:=2) (e:=1) (by omega) (by omega) (by omega) (by omega)).to ?_
 rintro _ h3 ⟨rfl,x3⟩
 refine (o2.ext x3).stA fun h4 o4 b4 n4=>?_
 refine o4.ldA rfl ⟨_,rfl,rfl,((x1.trans x2).trans x3).but_ b4 (zi (by have:=x1.len;omega))⟩
theorem Y8 (r:Rd h0 s 4 (tcs ts)) (sz:ts.length≤1048576):callV SP zIQ [.agg (SetC c s)] h0 (PwRes (chR trd c ts) h0):=by
 apply zCW
 unfold zeg
 refine zk fun h1 o1 x1 n1=>?_
 refine zo fun h2 o2 x2 n2=>?_
 have X:=x1.trans x2
 have hx1:=x1.len
 refine (o1.ext x2).ldA rfl ?_
 refine (ziE (c:=c) (r.ext X) sz zsb [] trd fun t h _=>zLz t h).to ?_
 rintro _ h3 ⟨u,rfl,pu,fu,x3⟩
 refine ⟨_,rfl,_,rfl,_,rfl,_,rfl,?_⟩
 have hX:=X.len
 refine (o2.ext x3).stA fun h4 o4 b4 n4=>?_
 refine o4.ldA rfl ⟨u,rfl,pu.but b4 fun i ei e=>by have:=fu _ ei;have:=Option.some.inj e;omega,fu.le (by omega),(X.trans x3).but_ b4 (zi (by omega))⟩
theorem Yt (r:Rd h0 s 4 (tcs ts)) (sz:ts.length≤1048576):callV SP zIP [.agg (SetC c s)] h0 (PwRes (chR fld c ts) h0):=by
 apply zCV
 unfold zee
 refine zk fun h1 o1 x1 n1=>?_
 refine zo fun h2 o2 x2 n2=>?_
 have X:=x1.trans x2
 have hx1:=x1.len
 refine (o1.ext x2).ldA rfl ?_
 refine (ziE (c:=c) (r.ext X) sz zsa [] fld fun t h _=>znv t h).to ?_
 rintro _ h3 ⟨u,rfl,pu,fu,x3⟩
 refine ⟨_,rfl,_,rfl,_,rfl,_,rfl,?_⟩
 have hX:=X.len
 refine (o2.ext x3).stA fun h4 o4 b4 n4=>?_
 refine o4.ldA rfl ⟨u,rfl,pu.but b4 fun i ei e=>by have:=fu _ ei;have:=Option.some.inj e;omega,fu.le (by omega),(X.trans x3).but_ b4 (zi (by omega))⟩
end
end Go.Proofs.YtlcgclmobfdbcaaGreat.Cl
set_option linter.unusedVariables false
set_option linter.unusedSimpArgs false
namespace Go.Proofs.YtlcgclmobfdbcaaGreat.Cl
open Go
theorem zgX {α :Type} [DecidableEq α]:∀(l m:List α),l.Nodup→(∀x∈l,x∈m)→l.length≤m.length
 | [],_,_,_=>by simp
 | a::l,m,h,hs=>by
  have h1:=List.nodup_cons.1 h
  have hm:a∈m:=hs a (by simp)
  have:=zgX l (m.erase a) h1.2 fun x hx=>(List.mem_erase_of_ne (fun e=>h1.1 (by rw [←e];exact hx))).2 (hs x (by simp [hx]))
  rw [List.length_erase_of_mem hm] at this
  have:=List.length_pos_of_mem hm
  simp only [List.length_cons]
  omega
theorem Dp.cnt_le {D D':Dp} (f:List Nat→List Nat) (hf:∀L,D.Fill L→D'.Fill (f L)) (inj:∀L M,D.Fill L→D.Fill M→f L=f M→L=M):D.cntZ≤D'.cntZ:=by
 unfold Dp.cntZ
 rw [←Dp.fls_len,←Dp.fls_len]
 have hnd:((D.fls D.size 0 0).map f).Nodup:=by
  refine List.pairwise_map.2 ((Dp.fls_nodup D.size 0 0).imp_of_mem fun {a b} ha hb hne e=>hne ?_)
  exact inj a b ((Dp.mem_fls _ _ _ _).1 ha) ((Dp.mem_fls _ _ _ _).1 hb) e
 have:=zgX _ (D'.fls D'.size 0 0) hnd fun x hx=>by
  obtain ⟨L,hL,rfl⟩:=List.mem_map.1 hx
  exact (Dp.mem_fls _ _ _ _).2 (hf L ((Dp.mem_fls _ _ _ _).1 hL))
 rwa [List.length_map] at this
theorem Dp.cnt_same {D D':Dp} (h:∀L,D.Fill L↔D'.Fill L):D.cntZ=D'.cntZ:=
 Nat.le_antisymm (Dp.cnt_le id (fun L=>(h L).1) fun _ _ _ _ e=>e) (Dp.cnt_le id (fun L=>(h L).2) fun _ _ _ _ e=>e)
def zY (h w:Nat):List (List Int):=List.replicate h (List.replicate w (-1))
def openB:List (List Int):=[[],[],[],[]]
section
variable {c:Int} {ts us:List Tile} {h w n:Nat}
theorem vN (hh:0<h):rw_ (zY h w) 0=List.replicate w (-1):=by
 unfold rw_ zY
 rw [List.getD_eq_getElem?_getD,List.getElem?_replicate,if_pos hh];rfl
theorem Xn {y x:Nat} (hy:y<h) (hx:x<w):G (zY h w) y x = -1:=by
 unfold G rw_ zY
 rw [List.getD_eq_getElem?_getD,List.getD_eq_getElem?_getD,List.getElem?_replicate,if_pos hy]
 show ((List.replicate w (-1:Int))[x]?).getD 0 = -1
 rw [List.getElem?_replicate,if_pos hx];rfl
theorem XN {k:Nat} (hk:k<4):rw_ openB k=[]:=by
 have hk':k=0∨k=1∨k=2∨k=3:=by omega
 rcases hk' with rfl | rfl | rfl | rfl <;> rfl
theorem Yu (hh:1≤h∧h≤5) (hw:1≤w∧w≤5):zJ c n (zY h w) openB:=by
 have hrow:∀y,y<h→rw_ (zY h w) y=List.replicate w (-1):=fun y hy=>by
  unfold rw_ zY
  rw [List.getD_eq_getElem?_getD,List.getElem?_replicate,if_pos hy];rfl
 have hl:(zY h w).length=h:=by unfold zY;simp
 refine ⟨⟨by rw [hl];omega,fun y hy=>?_⟩,fun y x hy hx=>?_,rfl,fun k hk=>⟨.inl (by rw [XN hk];rfl),fun j hj=>by rw [XN hk] at hj;simp at hj⟩⟩
 ·rw [hl] at hy
  rw [hrow y hy,hrow 0 (by omega),List.length_replicate]
  omega
 ·rw [hl] at hy
  rw [hrow y hy,List.length_replicate] at hx
  rw [Xn hy hx];omega
def yM (c:Int) (ts:List Tile) (h w:Nat):Dp:=dpOf c ts (zY h w) openB
theorem znu (hh:0<h):(yM c ts h w).size=h*w∧(yM c ts h w).w=w:=by
 constructor
 ·show (zY h w).length*(rw_ (zY h w) 0).length=_
  rw [vN hh,List.length_replicate];unfold zY;rw [List.length_replicate]
 ·show (rw_ (zY h w) 0).length=_
  rw [vN hh,List.length_replicate]
theorem zJa (hh:0<h) (hw:0<w) {q i:Nat} (hq:q<h*w):(yM c ts h w).B q i=true:=by
 show bOK ts (zY h w) openB (q/(rw_ (zY h w) 0).length) (q%(rw_ (zY h w) 0).length) i=true
 rw [vN hh,List.length_replicate]
 have hy:q/w<h:=by rw [Nat.div_lt_iff_lt_mul hw];exact hq
 have hx:q%w<w:=Nat.mod_lt _ hw
 have hb:∀k j,k<4→brd ts openB k j i=true:=fun k j hk=>by unfold brd;rw [XN hk];rfl
 unfold bOK
 rw [Xn hy hx,hb 0 _ (by omega),hb 1 _ (by omega),hb 2 _ (by omega),hb 3 _ (by omega)]
 simp
def Adj (n:Nat) (T:Nat→Tile):Prop:=(∀y x,y+1<n→x<n→sd (T (y*n+x)) 3=sd (T ((y+1)*n+x)) 1)∧(∀y x,y<n→x+1<n→sd (T (y*n+x)) 2=sd (T (y*n+(x+1))) 0)
def tl_ (ts:List Tile) (L:List Nat) (q:Nat):Tile:=tat ts ((L.getD q 0:Nat):Int)
theorem zw {y x n:Nat} (hx:x<n):(y*n+x)/n=y∧(y*n+x)%n=x:=by
 have hn:0<n:=by omega
 constructor
 ·rw [Nat.add_comm,Nat.add_mul_div_right _ _ hn,Nat.div_eq_of_lt hx,Nat.zero_add]
 ·rw [Nat.add_comm,Nat.add_mul_mod_self_right,Nat.mod_eq_of_lt hx]
theorem xF {y x n:Nat} (hy:y<n) (hx:x<n):y*n+x<n*n:=by
 have:(y+1)*n≤n*n:=Nat.mul_le_mul_right _ hy
 rw [Nat.add_mul,Nat.one_mul] at this
 omega
theorem zaY (hs:setOK c ts) (hn:0<n) (h5:n≤5) (L:List Nat):(yM c ts n n).Fill L↔L.length=n*n∧(∀q,q<n*n→L.getD q 0<ts.length)∧Adj n (tl_ ts L):=by
 have ok:(yM c ts n n).OK:=wF hs (Yu ⟨hn,h5⟩ ⟨hn,h5⟩)
 obtain ⟨e1,e2⟩:=znu (c:=c) (ts:=ts) (h:=n) (w:=n) hn
 rw [Dp.fill_fit ok]
 unfold Dp.Fit
 rw [e1,e2]
 have side:∀{i k:Nat},i<ts.length→k<4→((sd (tat ts (i:Int)) k).toNat:Int)=sd (tat ts (i:Int)) k:=fun hi hk=>by have:=ziS hs hi hk;omega
 refine and_congr_right fun hl=>?_
 constructor
 ·intro h
  have hlt:∀q,q<n*n→L.getD q 0<ts.length:=fun q hq=>(h q hq).1
  refine ⟨hlt,fun y x hy hx=>?_,fun y x hy hx=>?_⟩
  ·have hq:=xF hy hx
   have hq0:=xF (show y<n by omega) hx
   have e:(y+1)*n+x-n=y*n+x:=by rw [Nat.add_mul,Nat.one_mul];omega
   have h1:=(h _ hq).2.2.1 (by rw [Nat.add_mul,Nat.one_mul];omega)
   rw [e] at h1
   have h2:(sd (tat ts ((L.getD (y*n+x) 0:Nat):Int)) 3).toNat=(sd (tat ts ((L.getD ((y+1)*n+x) 0:Nat):Int)) 1).toNat:=h1
   have a:=side (hlt _ hq0) (k:=3) (by omega)
   have b:=side (hlt _ hq) (k:=1) (by omega)
   unfold tl_
   omega
  ·have hq:=xF hy hx
   have hq0:=xF hy (show x<n by omega)
   have h1:=(h _ hq).2.2.2 (by rw [(zw hx).2];omega)
   rw [show y*n+(x+1)-1=y*n+x by omega] at h1
   have h2:(sd (tat ts ((L.getD (y*n+x) 0:Nat):Int)) 2).toNat=(sd (tat ts ((L.getD (y*n+(x+1)) 0:Nat):Int)) 0).toNat:=h1
   have a:=side (hlt _ hq0) (k:=2) (by omega)
   have b:=side (hlt _ hq) (k:=0) (by omega)
   unfold tl_
   omega
 ·rintro ⟨hlt,hv,hh⟩ q hq
  have hy:q/n<n:=by rw [Nat.div_lt_iff_lt_mul hn];exact hq
  have hx:q%n<n:=Nat.mod_lt _ hn
  have eq:q/n*n+q%n=q:=by rw [Nat.mul_comm];exact Nat.div_add_mod q n
  refine ⟨hlt q hq,zJa hn hn hq,fun hle=>?_,fun hne=>?_⟩
  ·have h1:1≤q/n:=Nat.div_pos hle hn
   have:=hv (q/n-1) (q%n) (by omega) hx
   rw [show q/n-1+1=q/n by omega,eq] at this
   have e:(q/n-1)*n+q%n=q-n:=by
    have:(q/n-1)*n+n=q/n*n:=by
     conv=>lhs;rhs;rw [←Nat.one_mul n]
     rw [←Nat.add_mul];congr 1;omega
    omega
   rw [e] at this
   show (sd (tat ts ((L.getD (q-n) 0:Nat):Int)) 3).toNat=(sd (tat ts ((L.getD q 0:Nat):Int)) 1).toNat
   unfold tl_ at this
   rw [this]
  ·have:=hh (q/n) (q%n-1) hy (by omega)
   rw [show q%n-1+1=q%n by omega,eq] at this
   have e:q/n*n+(q%n-1)=q-1:=by omega
   rw [e] at this
   show (sd (tat ts ((L.getD (q-1) 0:Nat):Int)) 2).toNat=(sd (tat ts ((L.getD q 0:Nat):Int)) 0).toNat
   unfold tl_ at this
   rw [this]
def ixN (us:List Tile) (t:Tile):Nat:=us.findIdx fun a=>decide (a=t)
theorem zlI {t:Tile} (h:t∈us):ixN us t<us.length∧tat us ((ixN us t:Nat):Int)=t:=by
 have h3:us.findIdx (fun a=>decide (a=t))<us.length:=List.findIdx_lt_length_of_exists ⟨_,h,by simp⟩
 have h4:=List.findIdx_getElem (w:=h3)
 refine ⟨h3,?_⟩
 unfold ixN
 rw [xm h3]
 simpa using h4
def mvL (ts us:List Tile) (φ :Tile→Tile) (σ :Nat→Nat) (N:Nat) (L:List Nat):List Nat:=(List.range N).map fun q=>ixN us (φ (tl_ ts L (σ q)))
theorem zqU (hn:ts.Nodup) {i j:Nat} (hi:i<ts.length) (hj:j<ts.length) (e:tat ts (i:Int)=tat ts (j:Int)):i=j:=by
 rw [xm hi,xm hj] at e
 refine Classical.byContradiction fun hne=>?_
 have hp:=List.pairwise_iff_getElem.1 hn
 rcases Nat.lt_or_gt_of_ne hne with hlt | hlt
 ·exact hp i j hi hj hlt e
 ·exact hp j i hj hi hlt e.symm
theorem zBw {φ :Tile→Tile} {σ :Nat→Nat} {N:Nat} {L:List Nat} {q:Nat} (hq:q<N):(mvL ts us φ σ N L).getD q 0=ixN us (φ (tl_ ts L (σ q))):=by
 unfold mvL
 rw [List.getD_eq_getElem?_getD,List.getElem?_map,List.getElem?_range hq];rfl
theorem zIh (hs:setOK c ts) (hs':setOK c us) (hn:0<n) (h5:n≤5) {φ :Tile→Tile} (hφ :∀{a b},φ a = φ b→a=b) (hm:∀t∈ts,φ t∈us) {σ :Nat→Nat} (h1:∀q,q<n*n→ σ q<n*n) (h2:∀q,q<n*n→∃q',q'<n*n∧ σ q'=q)
  (hadj:∀T,Adj n T→Adj n fun q=> φ (T (σ q))):(yM c ts n n).cntZ≤(yM c us n n).cntZ:=by
 have hin:∀{L:List Nat},(∀q,q<n*n→L.getD q 0<ts.length)→∀q,q<n*n→tl_ ts L q∈ts:=fun {L} hL q hq=>by
  unfold tl_
  rw [xm (hL q hq)];exact List.getElem_mem _
 have hnd:ts.Nodup:=hs.pw.imp fun {a b} hab e=>by subst e;exact ltT_sto.irr a hab
 refine Dp.cnt_le (mvL ts us φ σ (n*n)) (fun L hL=>?_) fun L M hL hM e=>?_
 ·obtain ⟨a1,a2,a3⟩:=(zaY hs hn h5 L).1 hL
  have ht:∀q,q<n*n→tl_ us (mvL ts us φ σ (n*n) L) q = φ (tl_ ts L (σ q)):=fun q hq=>by
   show tat us (((mvL ts us φ σ (n*n) L).getD q 0:Nat):Int)=_
   rw [zBw hq]
   exact (zlI (hm _ (hin a2 _ (h1 q hq)))).2
  refine (zaY hs' hn h5 _).2 ⟨by unfold mvL;simp,fun q hq=>?_,fun y x hy hx=>?_,fun y x hy hx=>?_⟩
  ·rw [zBw hq]
   exact (zlI (hm _ (hin a2 _ (h1 q hq)))).1
  ·rw [ht _ (xF (by omega) hx),ht _ (xF hy hx)]
   exact (hadj _ a3).1 y x hy hx
  ·rw [ht _ (xF hy (by omega)),ht _ (xF hy hx)]
   exact (hadj _ a3).2 y x hy hx
 ·obtain ⟨a1,a2,a3⟩:=(zaY hs hn h5 L).1 hL
  obtain ⟨b1,b2,b3⟩:=(zaY hs hn h5 M).1 hM
  refine List.ext_getElem (by omega) fun q hq hq'=>?_
  have hqn:q<n*n:=by omega
  obtain ⟨q',hq1,hq2⟩:=h2 q hqn
  have e1:(mvL ts us φ σ (n*n) L).getD q' 0=(mvL ts us φ σ (n*n) M).getD q' 0:=by rw [e]
  rw [zBw hq1,zBw hq1,hq2] at e1
  have e2:tat us ((ixN us (φ (tl_ ts L q)):Nat):Int)=tat us ((ixN us (φ (tl_ ts M q)):Nat):Int):=congrArg (fun k:Nat=>tat us (k:Int)) e1
  rw [(zlI (hm _ (hin a2 q hqn))).2,(zlI (hm _ (hin b2 q hqn))).2] at e2
  have e3:=zqU hnd (a2 q hqn) (b2 q hqn) (hφ e2)
  rw [List.getD_eq_getElem?_getD,List.getD_eq_getElem?_getD,List.getElem?_eq_getElem hq,List.getElem?_eq_getElem hq'] at e3
  exact e3
def trb (t:Tile):Tile:=(sd t 1,sd t 2,sd t 3,sd t 0)
theorem zIc (t:Tile):trb (trd t)=t:=rfl
theorem zJc (t:Tile):fld (fld t)=t:=rfl
theorem zId {a b:Tile} (h:trb a=trb b):a=b:=by
 obtain ⟨a0,a1,a2,a3⟩:=a
 obtain ⟨b0,b1,b2,b3⟩:=b
 simp only [trb,sd,Prod.mk.injEq] at h ⊢
 omega
theorem zqq (hs:setOK c ts) (hn:0<n) (h5:n≤5):(yM c (dsT (ts.map trd)) n n).cntZ=(yM c ts n n).cntZ:=by
 have hs':setOK c (dsT (ts.map trd)):=hs.img zgw
 have hdm:∀{q},q<n*n→∃A B,A<n∧B<n∧A*n+B=q:=fun {q} hq=>⟨q/n,q%n,by rw [Nat.div_lt_iff_lt_mul hn];exact hq,Nat.mod_lt _ hn,by rw [Nat.mul_comm];exact Nat.div_add_mod q n⟩
 refine Nat.le_antisymm ?_ ?_
 ·refine zIh hs' hs hn h5 (φ :=trb) (σ :=fun q=>(q%n)*n+(n-1-q/n)) zId (fun t ht=>?_) (fun q hq=>by
   obtain ⟨A,B,hA,hB,rfl⟩:=hdm hq
   rw [(zw hB).1,(zw hB).2]
   exact xF hB (by omega)) (fun q hq=>?_) fun T hT=>⟨fun y x hy hx=>?_,fun y x hy hx=>?_⟩
  ·obtain ⟨a,ha,rfl⟩:=List.mem_map.1 (mem_dsort.1 ht)
   rw [zIc];exact ha
  ·obtain ⟨A,B,hA,hB,rfl⟩:=hdm hq
   refine ⟨(n-1-B)*n+A,xF (by omega) hA,?_⟩
   rw [(zw hA).1,(zw hA).2,show n-1-(n-1-B)=B by omega]
  ·show sd (T _) 0=sd (T _) 2
   rw [(zw hx).1,(zw hx).2,(zw hx).1,(zw hx).2]
   have:=hT.2 x (n-1-(y+1)) hx (by omega)
   rw [show n-1-(y+1)+1=n-1-y by omega] at this
   exact this.symm
  ·show sd (T _) 3=sd (T _) 1
   have hx':x<n:=by omega
   rw [(zw hx').1,(zw hx').2,(zw hx).1,(zw hx).2]
   exact hT.1 x (n-1-y) hx (by omega)
 ·refine zIh hs hs' hn h5 (φ :=trd) (σ :=fun q=>(n-1-q%n)*n+q/n) zIb (fun t ht=>mem_dsort.2 (List.mem_map_of_mem ht)) (fun q hq=>by
   obtain ⟨A,B,hA,hB,rfl⟩:=hdm hq
   rw [(zw hB).1,(zw hB).2]
   exact xF (by omega) hA) (fun q hq=>?_) fun T hT=>⟨fun y x hy hx=>?_,fun y x hy hx=>?_⟩
  ·obtain ⟨A,B,hA,hB,rfl⟩:=hdm hq
   have hc:n-1-A<n:=by omega
   refine ⟨B*n+(n-1-A),xF hB hc,?_⟩
   rw [(zw hc).1,(zw hc).2,show n-1-(n-1-A)=A by omega]
  ·show sd (T _) 2=sd (T _) 0
   rw [(zw hx).1,(zw hx).2,(zw hx).1,(zw hx).2]
   exact hT.2 (n-1-x) y (by omega) hy
  ·show sd (T _) 1=sd (T _) 3
   have hx':x<n:=by omega
   rw [(zw hx').1,(zw hx').2,(zw hx).1,(zw hx).2]
   have:=hT.1 (n-1-(x+1)) y (by omega) hy
   rw [show n-1-(x+1)+1=n-1-x by omega] at this
   exact this.symm
theorem zna (hs:setOK c ts) (hn:0<n) (h5:n≤5):(yM c (dsT (ts.map fld)) n n).cntZ=(yM c ts n n).cntZ:=by
 have hs':setOK c (dsT (ts.map fld)):=hs.img zho
 have hdm:∀{q},q<n*n→∃A B,A<n∧B<n∧A*n+B=q:=fun {q} hq=>⟨q/n,q%n,by rw [Nat.div_lt_iff_lt_mul hn];exact hq,Nat.mod_lt _ hn,by rw [Nat.mul_comm];exact Nat.div_add_mod q n⟩
 have key:∀{ks bs:List Tile},setOK c ks→setOK c bs→(∀t∈ks,fld t∈bs)→(yM c ks n n).cntZ≤(yM c bs n n).cntZ:=fun {ks bs} ha hb hm=>by
  refine zIh ha hb hn h5 (φ :=fld) (σ :=fun q=>(n-1-q/n)*n+q%n) zJb hm (fun q hq=>by
   obtain ⟨A,B,hA,hB,rfl⟩:=hdm hq
   rw [(zw hB).1,(zw hB).2]
   exact xF (by omega) hB) (fun q hq=>?_) fun T hT=>⟨fun y x hy hx=>?_,fun y x hy hx=>?_⟩
  ·obtain ⟨A,B,hA,hB,rfl⟩:=hdm hq
   refine ⟨(n-1-A)*n+B,xF (by omega) hB,?_⟩
   rw [(zw hB).1,(zw hB).2,show n-1-(n-1-A)=A by omega]
  ·show sd (T _) 1=sd (T _) 3
   rw [(zw hx).1,(zw hx).2,(zw hx).1,(zw hx).2]
   have:=hT.1 (n-1-(y+1)) x (by omega) hx
   rw [show n-1-(y+1)+1=n-1-y by omega] at this
   exact this.symm
  ·show sd (T _) 2=sd (T _) 0
   have hx':x<n:=by omega
   rw [(zw hx').1,(zw hx').2,(zw hx).1,(zw hx).2]
   exact hT.2 (n-1-y) x (by omega) hx
 refine Nat.le_antisymm (key hs' hs fun t ht=>?_) (key hs hs' fun t ht=>mem_dsort.2 (List.mem_map_of_mem ht))
 obtain ⟨a,ha,rfl⟩:=List.mem_map.1 (mem_dsort.1 ht)
 rw [zJc];exact ha
end
section
variable {c:Int} {ts:List Tile} {plan borders:List (List Int)}
noncomputable def samP (c:Int) (ts:List Tile) (plan borders:List (List Int)):List (List Int):=wr (sameAt (dpOf c ts plan borders)) plan.length (rw_ plan 0).length
theorem Xi {y:Nat} (hy:y<plan.length):rw_ (samP c ts plan borders) y=(List.range (rw_ plan 0).length).map fun x=>sameAt (dpOf c ts plan borders) (y*(rw_ plan 0).length+x):=by
 unfold rw_ samP wr
 rw [List.getD_eq_getElem?_getD,List.getElem?_map,List.getElem?_range hy];rfl
theorem ziX {y x:Nat} (hy:y<plan.length) (hx:x<(rw_ plan 0).length):G (samP c ts plan borders) y x=sameAt (dpOf c ts plan borders) (y*(rw_ plan 0).length+x):=by
 unfold G
 rw [Xi hy,List.getD_eq_getElem?_getD,List.getElem?_map,List.getElem?_range hx];rfl
theorem mem_atL {D:Dp} {p k:Nat} {a:Int}:a∈atL D p k↔∃i:Nat,a=i∧i<k∧D.at_ p i:=by
 unfold atL
 simp only [List.mem_map,List.mem_filter,List.mem_range,decide_eq_true_eq]
 exact ⟨fun ⟨i,⟨a,b⟩,c⟩=>⟨i,c.symm,a,b⟩,fun ⟨i,c,a,b⟩=>⟨i,⟨a,b⟩,c.symm⟩⟩
theorem zAG {D:Dp} (ok:D.OK) {p i:Nat} (hp:p<D.size) (hi:i<D.n):D.at_ p i↔∃L,D.Fill L∧L.getD p 0=i:=by
 rw [Dp.at_stand ok hp hi,←Dp.stand_fill hp]
 exact ⟨fun h=>⟨h,hi⟩,fun h=>h.1⟩
open Classical in
theorem zIl {D:Dp} (ok:D.OK) {p i:Nat} (hp:p<D.size) (hi:i<D.n):sameAt D p=(i:Int)↔∀j:Nat,j<D.n→(D.at_ p j↔j=i):=by
 unfold sameAt
 constructor
 ·intro h j hj
  split at h
  ·next h1=>
   obtain ⟨a,ha⟩:=List.length_eq_one_iff.1 h1
   rw [ha] at h
   have:a=(i:Int):=h
   subst this
   have hm:∀k:Nat,k<D.n→(D.at_ p k↔k=i):=fun k hk=>by
    have:(k:Int)∈atL D p D.n↔k=i:=by rw [ha];simp;omega
    rw [←this,mem_atL]
    exact ⟨fun h=>⟨k,rfl,hk,h⟩,fun ⟨m,e,_,h⟩=>by rw [show k=m by omega];exact h⟩
   exact hm j hj
  ·omega
 ·intro h
  have ha:atL D p D.n=[(i:Int)]:=by
   unfold atL
   have:(List.range D.n).filter (fun k=>decide (D.at_ p k))=[i]:=by
    have hp1:((List.range D.n).filter fun k=>decide (D.at_ p k)).Pairwise (· < ·):=List.Pairwise.filter _ List.pairwise_lt_range
    have hm:∀x,x∈(List.range D.n).filter (fun k=>decide (D.at_ p k))↔x=i:=fun x=>by
     rw [List.mem_filter,List.mem_range,decide_eq_true_eq]
     exact ⟨fun q=>(h x q.1).1 q.2,fun e=>by subst e;exact ⟨hi,(h x hi).2 rfl⟩⟩
    generalize (List.range D.n).filter (fun k=>decide (D.at_ p k))=l at hp1 hm
    match l,hp1,hm with
    | [],_,hm=>exact absurd ((hm i).2 rfl) (by simp)
    | [a],_,hm=>rw [(hm a).1 (by simp)]
    | a::b::l,hp1,hm=>
     have h1:=(hm a).1 (by simp)
     have h2:=(hm b).1 (by simp)
     have:=(List.pairwise_cons.1 hp1).1 b (by simp)
     omega
   rw [this];rfl
  rw [ha];simp
theorem zqv (hs:setOK c ts) (hp:zJ c ts.length plan borders):zJ c ts.length (samP c ts plan borders) borders:=by
 obtain ⟨p1,p2,p3,p4⟩:=hp
 have hl:(samP c ts plan borders).length=plan.length:=xM _ _ _
 have h0:=p1.1
 have hw:=(p1.2 0 (by omega))
 have hrl:∀y,y<plan.length→(rw_ (samP c ts plan borders) y).length=(rw_ plan 0).length:=fun y hy=>by rw [Xi hy];simp
 refine ⟨⟨by rw [hl];exact h0,fun y hy=>?_⟩,fun y x hy hx=>?_,p3,fun k hk=>?_⟩
 ·rw [hl] at hy
  rw [hrl y hy,hrl 0 (by omega)]
  exact ⟨rfl,hw.2.1,hw.2.2⟩
 ·rw [hl] at hy
  rw [hrl y hy] at hx
  rw [ziX hy hx]
  unfold sameAt
  split
  ·next h1=>
   obtain ⟨a,ha⟩:=List.length_eq_one_iff.1 h1
   rw [ha]
   have:a∈atL (dpOf c ts plan borders) (y*(rw_ plan 0).length+x) (dpOf c ts plan borders).n:=by rw [ha];simp
   obtain ⟨i,rfl,hi,_⟩:=mem_atL.1 this
   have hi':i<ts.length:=hi
   show -1≤(i:Int)∧(i:Int)<ts.length
   omega
  ·omega
 ·have:=p4 k hk
  rw [hrl 0 (by omega),hl]
  exact this
theorem zqw (hs:setOK c ts) (hp:zJ c ts.length plan borders) (h0:(dpOf c ts plan borders).left 0 0) (L:List Nat):(dpOf c ts (samP c ts plan borders) borders).Fill L↔(dpOf c ts plan borders).Fill L:=by
 have ok:=wF hs hp
 have ok':=wF hs (zqv hs hp)
 have hw0:0<(rw_ plan 0).length:=ok.hw
 have hpl:=hp.1.1
 have hl:(samP c ts plan borders).length=plan.length:=xM _ _ _
 have hrl:(rw_ (samP c ts plan borders) 0).length=(rw_ plan 0).length:=by rw [Xi (by omega)];simp
 have hsz:(dpOf c ts (samP c ts plan borders) borders).size=(dpOf c ts plan borders).size:=by
  show (samP c ts plan borders).length*(rw_ (samP c ts plan borders) 0).length=plan.length*(rw_ plan 0).length
  rw [hl,hrl]
 have hww:(dpOf c ts (samP c ts plan borders) borders).w=(dpOf c ts plan borders).w:=hrl
 have hB:∀q i,q<plan.length*(rw_ plan 0).length→i<ts.length→((dpOf c ts (samP c ts plan borders) borders).B q i=true↔(sameAt (dpOf c ts plan borders) q = -1∨sameAt (dpOf c ts plan borders) q=(i:Int))∧bOK ts (zY plan.length (rw_ plan 0).length) borders (q/(rw_ plan 0).length) (q%(rw_ plan 0).length) i=true):=fun q i hq hi=>by
  have hy:q/(rw_ plan 0).length<plan.length:=by rw [Nat.div_lt_iff_lt_mul hw0];exact hq
  have hx:q%(rw_ plan 0).length<(rw_ plan 0).length:=Nat.mod_lt _ hw0
  have e:q/(rw_ plan 0).length*(rw_ plan 0).length+q%(rw_ plan 0).length=q:=by rw [Nat.mul_comm];exact Nat.div_add_mod _ _
  show bOK ts (samP c ts plan borders) borders (q/(rw_ (samP c ts plan borders) 0).length) (q%(rw_ (samP c ts plan borders) 0).length) i=true↔_
  rw [hrl]
  unfold bOK
  rw [ziX hy hx,e,Xn hy hx,hrl,hl,vN (by omega),List.length_replicate]
  have hfl:(zY plan.length (rw_ plan 0).length).length=plan.length:=by unfold zY;simp
  rw [hfl]
  have hge:sameAt (dpOf c ts plan borders) q = -1∨0≤sameAt (dpOf c ts plan borders) q:=by
   unfold sameAt
   split
   ·next h1=>
    obtain ⟨a,ha⟩:=List.length_eq_one_iff.1 h1
    have:a∈atL (dpOf c ts plan borders) q (dpOf c ts plan borders).n:=by rw [ha];simp
    obtain ⟨i,rfl,_⟩:=mem_atL.1 this
    rw [ha];right;show (0:Int)≤(i:Int);omega
   ·exact .inl rfl
  rw [Bool.and_eq_true,Bool.and_eq_true]
  refine and_congr ?_ ?_
  ·rcases hge with h | h
   ·rw [h];simp
   ·simp [show ¬sameAt (dpOf c ts plan borders) q = -1 by omega]
    omega
  ·simp
 have hB0:∀q i,q<plan.length*(rw_ plan 0).length→((dpOf c ts plan borders).B q i=true↔(G plan (q/(rw_ plan 0).length) (q%(rw_ plan 0).length)<0∨G plan (q/(rw_ plan 0).length) (q%(rw_ plan 0).length)=(i:Int))∧bOK ts (zY plan.length (rw_ plan 0).length) borders (q/(rw_ plan 0).length) (q%(rw_ plan 0).length) i=true):=fun q i hq=>by
  have hy:q/(rw_ plan 0).length<plan.length:=by rw [Nat.div_lt_iff_lt_mul hw0];exact hq
  have hx:q%(rw_ plan 0).length<(rw_ plan 0).length:=Nat.mod_lt _ hw0
  show bOK ts plan borders (q/(rw_ plan 0).length) (q%(rw_ plan 0).length) i=true↔_
  unfold bOK
  rw [Xn hy hx,vN (by omega),List.length_replicate]
  have hfl:(zY plan.length (rw_ plan 0).length).length=plan.length:=by unfold zY;simp
  rw [hfl,Bool.and_eq_true,Bool.and_eq_true]
  refine and_congr ?_ ?_
  ·simp
  ·simp
 rw [Dp.fill_fit ok',Dp.fill_fit ok]
 unfold Dp.Fit
 rw [hsz,hww]
 have eqs:∀q,q<plan.length*(rw_ plan 0).length→L.getD q 0<ts.length→(dpOf c ts plan borders).Fill L→(dpOf c ts (samP c ts plan borders) borders).B q (L.getD q 0)=true:=fun q hq hi hL=>by
  have hb:=((Dp.fill_fit ok).1 hL).2 q hq
  refine (hB q _ hq hi).2 ⟨?_,((hB0 q _ hq).1 hb.2.1).2⟩
  have hat:(dpOf c ts plan borders).at_ q (L.getD q 0):=(zAG ok hq hi).2 ⟨L,hL,rfl⟩
  unfold sameAt
  split
  ·next h1=>
   obtain ⟨a,ha⟩:=List.length_eq_one_iff.1 h1
   have:((L.getD q 0:Nat):Int)∈atL (dpOf c ts plan borders) q (dpOf c ts plan borders).n:=mem_atL.2 ⟨_,rfl,hi,hat⟩
   rw [ha] at this ⊢
   right
   show a=_
   exact (List.mem_singleton.1 this).symm
  ·exact .inl rfl
 constructor
 ·rintro ⟨hLl,h⟩
  refine ⟨hLl,fun q hq=>?_⟩
  obtain ⟨a,b,d,e⟩:=h q hq
  refine ⟨a,?_,d,e⟩
  obtain ⟨b1,b2⟩:=(hB q _ hq a).1 b
  refine (hB0 q _ hq).2 ⟨?_,b2⟩
  by_cases hg:G plan (q/(rw_ plan 0).length) (q%(rw_ plan 0).length)<0
  ·exact .inl hg
  ·right
   -- all fillings have the plan's tile there
   have hy:q/(rw_ plan 0).length<plan.length:=by rw [Nat.div_lt_iff_lt_mul hw0];exact hq
   have hx:q%(rw_ plan 0).length<(rw_ plan (q/(rw_ plan 0).length)).length:=by rw [(hp.1.2 _ hy).1];exact Nat.mod_lt _ hw0
   have hgb:=hp.2.1 _ _ hy hx
   obtain ⟨M,hM⟩:=Dp.left_fill.1 h0
   have hall:∀K,(dpOf c ts plan borders).Fill K→((K.getD q 0:Nat):Int)=G plan (q/(rw_ plan 0).length) (q%(rw_ plan 0).length):=fun K hK=>by
    have:=((hB0 q _ hq).1 (((Dp.fill_fit ok).1 hK).2 q hq).2.1).1
    rcases this with h | h
    ·exact absurd h hg
    ·exact h.symm
   have hMi:=hall M hM
   have hMn:M.getD q 0<ts.length:=(((Dp.fill_fit ok).1 hM).2 q hq).1
   have hsame:sameAt (dpOf c ts plan borders) q=((M.getD q 0:Nat):Int):=by
    refine (zIl ok hq hMn).2 fun j hj=>?_
    rw [zAG ok hq hj]
    constructor
    ·rintro ⟨K,hK,rfl⟩
     have:=hall K hK
     omega
    ·rintro rfl
     exact ⟨M,hM,rfl⟩
   rw [hsame] at b1
   rcases b1 with b1 | b1
   ·omega
   ·rw [←hMi,b1]
 ·rintro ⟨hLl,h⟩
  have hL:(dpOf c ts plan borders).Fill L:=(Dp.fill_fit ok).2 ⟨hLl,h⟩
  refine ⟨hLl,fun q hq=>?_⟩
  obtain ⟨a,b,d,e⟩:=h q hq
  exact ⟨a,eqs q hq a hL,d,e⟩
end
end Go.Proofs.YtlcgclmobfdbcaaGreat.Cl
set_option linter.unusedVariables false
set_option linter.unusedSimpArgs false
namespace Go.Proofs.YtlcgclmobfdbcaaGreat.Cl
open Go
theorem wl {n:Int} (h1:0≤n) (h2:n<18446744073709551616):IntKind.wrap .u64 n=n:=by
 unfold IntKind.wrap
 simp [IntKind.bits,IntKind.signed] <;> omega
theorem zAM {x:Int} (h0:0≤x) (h1:x<4294967296):yj .and .u64 x 4294967295=x:=by
 obtain ⟨n,rfl⟩:∃n:Nat,x=n:=⟨x.toNat,by omega⟩
 have hn:n<4294967296:=by omega
 have e:(BitVec.ofInt 64 (n:Int) &&& BitVec.ofInt 64 4294967295).toNat=n:=by
  rw [BitVec.toNat_and,BitVec.toNat_ofInt,BitVec.toNat_ofInt]
  have a:((n:Int)%((2^64:Nat):Int)).toNat=n:=by
   have:((2^64:Nat):Int)=18446744073709551616:=by decide
   omega
  have b:((4294967295:Int)%((2^64:Nat):Int)).toNat=2^32-1:=by decide
  rw [a,b,Nat.and_two_pow_sub_one_eq_mod]
  exact Nat.mod_eq_of_lt hn
 unfold yj
 show IntKind.wrap .u64 (((BitVec.ofInt 64 (n:Int) &&& BitVec.ofInt 64 4294967295).toNat:Nat):Int)=n
 rw [e]
 exact wl (by omega) (by omega)
theorem shrU {x:Int} (h0:0≤x) (h1:x<4294967296):shrI .u64 x 32=0:=by
 unfold shrI
 have:(2:Int)^(min (32:Int).toNat IntKind.u64.bits)=4294967296:=by decide
 rw [this,Int.fdiv_eq_ediv_of_nonneg _ (by omega)]
 exact Int.ediv_eq_zero_of_lt h0 h1
theorem zIw {x y:Int} (x0:0≤x) (x1:x≤1) (y0:0≤y) (y1:y<4294967296) {h:H} {K:AVal→H→Prop} (hk:K (.tuple [.int .u64 0,.int .u64 (x*y)]) h):callV SP zlL [.int .u64 x,.int .u64 y] h K:=by
 have hp:0≤x*y∧x*y<4294967296:=by
  rcases (show x=0∨x=1 by omega) with rfl | rfl <;> omega
 refine (show callV SP zlL [.int .u64 x,.int .u64 y] h fun v h'=>v = .tuple [.int .u64 0,.int .u64 (x*y)]∧h'=h from ?_).to (by rintro _ _ ⟨rfl,rfl⟩;exact hk)
 apply zvY
 unfold Ws
 rw [shrU x0 (by omega),shrU y0 y1,zAM x0 (by omega),zAM y0 y1,Int.zero_mul,Int.zero_mul,Int.mul_zero,wl (n:=x*y) hp.1 (by omega),wl (n:=0) (by omega) (by omega),shrU hp.1 hp.2,Int.add_zero,wl (n:=0) (by omega) (by omega),shrU (x:=0) (by omega) (by omega),zAM (x:=0) (by omega) (by omega),Int.add_zero,wl (n:=0) (by omega) (by omega),shrU (x:=0) (by omega) (by omega),Int.add_zero,wl (n:=0) (by omega) (by omega)]
 exact ⟨by decide,by decide,by decide,by decide,by decide,rfl,rfl⟩
theorem zNA {x y:Int} (x0:0≤x) (x1:x≤1) (y0:0≤y) (y1:y<4294967296) {h:H} {K:AVal→H→Prop} (hk:K (.tuple [.int .u64 0,.int .u64 (x*y)]) h):callV SP zlO [.int .u64 x,.int .u64 y] h K:=by
 refine (show callV SP zlO [.int .u64 x,.int .u64 y] h fun v h'=>v = .tuple [.int .u64 0,.int .u64 (x*y)]∧h'=h from ?_).to (by rintro _ _ ⟨rfl,rfl⟩;exact hk)
 apply zwh
 unfold Wy
 refine zIw x0 x1 y0 y1 ?_
 exact ⟨_,rfl,_,rfl,_,rfl,_,rfl,rfl,rfl⟩
theorem zAz {h:H} {s:Sl} {z:Nat} {cs:List AVal} (r:Ow h s z cs) {o:Nat} (ho:s.o=some o) {lo hi:Int} (h0:0≤lo) (h1:lo≤hi) (h2:hi≤s.len) {K:Sl→Prop} (hk:K ⟨some o,s.n,lo.toNat*z,(hi-lo).toNat,z⟩):cut s z lo hi h K:=by
 obtain ⟨a,b⟩ | ⟨o',a,b,c,d,e⟩:=r.at_
 ·rw [a] at ho;cases ho
 ·have:o'=o:=by rw [a] at ho;exact Option.some.inj ho
  subst this
  refine ⟨⟨h0,h1⟩,?_,(fun q=>by rw [a] at q;cases q),fun _=>⟨b,?_⟩,?_⟩
  ·unfold okS
   rw [a]
   simp only
   unfold cells
   rw [e]
   simp [r.len,d]
  ·rw [c,d]
   have:hi.toNat*z≤s.len*z:=Nat.mul_le_mul_right _ (by omega)
   omega
  ·rw [a,c];simpa using hk
theorem zmP {h:H} {s:Sl} {cs:List AVal} (r:Ow h s 1 cs) {o:Nat} (ho:s.o=some o) {a m:Nat} (ham:a+m≤s.len) {x:Sl} {xs:List AVal} (hx:x.sz=1) (hr:range h x.o x.n x.off (min x.len m*1)=some xs) {K:Int→H→Prop}
  (hk:∀h',Ow h' s 1 (yl cs a xs)→But (some o) h h'→h'.length=h.length→K (min x.len m:Nat) h'):zaP ⟨some o,s.n,a,m,1⟩ x 1 h K:=by
 obtain ⟨p,q⟩ | ⟨o',p,b,c,d,e⟩:=r.at_
 ·rw [p] at ho;cases ho
 ·have:o'=o:=by rw [p] at ho;exact Option.some.inj ho
  subst this
  have hxl:=zqG hr
  have hcl:=r.len
  have hol:o'<h.length:=(List.getElem?_eq_some_iff.1 e).1
  have hsl:(yl cs a xs).length=cs.length:=by unfold yl;simp;omega
  refine ⟨xs,h.set o' (.own (yl cs a xs)),hr,rfl,hx,?_,hk _ ⟨by rw [hsl,hcl],.inr ⟨o',p,b,c,d,by simp [List.getElem?_set,hol]⟩⟩ ⟨by simp,fun i hi hn=>by rw [List.getElem?_set,if_neg (fun e=>hn (by rw [e]))]⟩ (by simp)⟩
  unfold putN wi
  simp only [e,Option.bind_some]
  rw [if_pos (by omega)]
  simp only [Option.bind_some]
  rw [if_pos (by omega)]
theorem zbd (v w:AVal) (i n k:Nat) (h:i+k≤n):yl (List.replicate i v++List.replicate (n-i) w) i (List.replicate k v)=List.replicate (i+k) v++List.replicate (n-(i+k)) w:=by
 unfold yl
 rw [List.take_left' (by simp),List.length_replicate,List.drop_append]
 simp only [List.length_replicate,List.drop_replicate]
 rw [show i-(i+k)=0 by omega,show i+k-i=k by omega,show n-i-k=n-(i+k) by omega]
 simp [List.replicate_append_replicate]
theorem zBn (v w:AVal) (i n k:Nat) (h:k≤i):(List.replicate i v++List.replicate (n-i) w).take k=List.replicate k v:=by
 rw [List.take_append_of_le_length (by simpa using h),List.take_replicate,Nat.min_eq_left h]
theorem zBq {h:H} {s:Sl} {cs:List AVal} (r:Ow h s 1 cs) {o:Nat} (ho:s.o=some o) {k:Nat} (hk:k≤s.len):range h (some o) s.n 0 k=some (cs.take k):=by
 obtain ⟨p,q⟩ | ⟨o',p,b,c,d,e⟩:=r.at_
 ·rw [p] at ho;cases ho
 ·have:o'=o:=by rw [p] at ho;exact Option.some.inj ho
  subst this
  have hcl:=r.len
  rw [yX (xs:=cs) (by unfold cells;simp [e,d,hcl]) (by omega)]
  simp
section
variable {h0:H} {x:Sl} {n:Int}
theorem zqC {v:Int} (r:Rd h0 x 1 [i64 v]) (n0:0≤n) (n1:n≤1000000):callS SP zrD [.sl x,i64 n] h0 fun s h'=>Ow h' s 1 (List.replicate n.toNat (i64 v))∧Fr h0.length s∧Ext h0 h':=by
 have hxl:x.len=1:=by have:=r.len;simp at this;omega
 have hx:x.sz=1∧range h0 x.o x.n x.off 1=some [i64 v]:=by
  obtain a | ⟨a,_,c⟩:=r.at_
  ·omega
  ·exact ⟨a,by rw [hxl] at c;exact c⟩
 apply zwI
 unfold WL
 refine zc (fun f=>by omega) (fun _=>?_)
 rw [wl (n:=(x.len:Int)) (by omega) (by omega),wl n0 (by omega),hxl]
 refine zNA (by decide) (by decide) n0 (by omega) ?_
 refine ⟨_,rfl,_,rfl,_,rfl,_,rfl,?_⟩
 rw [show ((1:Nat):Int)*n=n by omega]
 refine zc (fun f=>by omega) (fun _=>?_)
 refine zc (fun f=>by omega) (fun _=>?_)
 rw [zf (by omega) (by omega)]
 refine qQ n0 (by unfold lim;omega) fun s h7 os ls so e7=>?_
 have x7:Ext h0 h7:=by rw [e7];exact Ext.app _ _
 have os':Ow h7 s 1 (List.replicate n.toNat (i64 0)):=by simpa using os
 obtain ⟨N,rfl⟩:∃N:Nat,n=N:=⟨n.toNat,by omega⟩
 rw [Int.toNat_natCast] at *
 have hsv:s=⟨some h0.length,s.n,0,s.len,1⟩:=by
  obtain ⟨a,_⟩ | ⟨o,a,b,c,d,_⟩:=os'.at_
  ·rw [a] at so;cases so
  ·rw [show some h0.length=s.o from so.symm,show (0:Nat)=s.off from c.symm,show (1:Nat)=s.sz from b.symm]
 have hmin:min x.len s.len=min 1 N:=by rw [hxl,ls]
 have rep0:List.replicate N (i64 0)=List.replicate 0 (i64 v)++List.replicate (N-0) (i64 0):=by simp
 have step:zaP ⟨some h0.length,s.n,0,s.len,1⟩ x 1 h7 fun n8 h9=>zjW SP (fun v_1 h'=>∃b,v_1=AVal.sl b∧Ow h' b 1 (List.replicate N (i64 v))∧Fr h0.length b∧Ext h0 h') s n8 h9:=by
  refine zmP os' so (by omega) hx.1 (xs:=List.replicate (min 1 N) (i64 v)) ?_ fun h9 o9 b9 l9=>?_
  ·rw [hmin]
   have:=x7.range hx.2
   by_cases hN:N=0
   ·subst hN
    have:=vE this (a:=0) (b:=0) (by omega)
    simpa using this
   ·rw [show min 1 N=1 by omega];exact this
  ·rw [rep0,show yl _ 0 _=_ from zbd _ _ 0 N (min 1 N) (by omega)] at o9
   rw [hmin,Nat.zero_add] at *
   have E9:Ext h0 h9:=x7.but_ b9 (zi (Nat.le_refl _))
   refine zoc _ _ _ (fun i h=>∃j:Nat,i=j∧j≤N∧(0<N→0<j)∧Ow h s 1 (List.replicate j (i64 v)++List.replicate (N-j) (i64 0))∧Ext h0 h) (fun i _=>(N-i).toNat) ?_ _ ⟨min 1 N,rfl,by omega,by omega,o9,E9⟩
   rintro X _ h ⟨j,rfl,hj,hp,o,e⟩ hX
   unfold zjV zwJ
   refine zc (fun hi=>?_) (fun hi=>⟨_,rfl,?_,(fun o' e'=>by rw [so] at e';cases e';exact Nat.le_refl _),e⟩)
   ·refine zAz o so (by omega) (by omega) (Int.le_refl _) ?_
    refine zAz o so (by omega) (by omega) (by omega) ?_
    simp only [Int.toNat_natCast,Nat.mul_one,Int.toNat_zero]
    rw [show ((s.len:Int)-(j:Int)).toNat=s.len-j by omega,show ((j:Int)-0).toNat=j by omega]
    refine zmP o so (by omega) rfl (xs:=List.replicate (min j (s.len-j)) (i64 v)) ?_ fun h3 o3 b3 l3=>?_
    ·simp only [Nat.mul_one]
     rw [zBq o so (by omega),zBn _ _ _ _ _ (by omega)]
    ·rw [zbd _ _ j N _ (by omega)] at o3
     simp only
     rw [zf (by omega) (by omega)]
     refine hX _ _ ⟨j+min j (s.len-j),by push_cast;rfl,by omega,fun _=>by omega,o3,e.but_ b3 (zi (Nat.le_refl _))⟩ (by omega)
   ·have:j=N:=by omega
    subst this
    simpa using o
 rw [←hsv] at step
 exact step
end
end Go.Proofs.YtlcgclmobfdbcaaGreat.Cl
set_option linter.unusedVariables false
set_option linter.unusedSimpArgs false
namespace Go.Proofs.YtlcgclmobfdbcaaGreat.Cl
open Go
def cntR (n:Nat):Int×Int:=if n≤1000000000000000 then ((n:Int),0) else (0,3)
def Flr (c:Int) (ts:List Tile) (plan borders:List (List Int)) (u q bq:Sl) (p:Pt) (h:H):Prop:=
 ∃fo pw cn al,p=⟨some fo,7,0⟩∧Obj h fo (FilC c u q bq pw cn al)∧FilH c ts plan borders u q bq pw h∧AlvT (dpOf c ts plan borders) h al∧CntT (dpOf c ts plan borders) ((dpOf c ts plan borders).size+1) h cn
section
variable {c:Int} {ts:List Tile} {plan borders:List (List Int)} {u q bq:Sl} {h:H}
theorem ziy (n:Nat) {K:AVal→H→Prop} (hk:K (.tuple [i64 (cntR n).1,i64 (cntR n).2]) h):callV SP zBT [i64 (sv n)] h K:=by
 apply zCL
 unfold zdO
 unfold cntR at hk
 refine zc (fun hx=>?_) (fun hx=>?_)
 ·rw [if_neg (by unfold sv at hx;omega)] at hk;exact hk
 ·have hn:n≤1000000000000000:=by unfold sv at hx;omega
  rw [if_pos hn] at hk
  rw [show sv n=(n:Int) by unfold sv;omega]
  exact hk
theorem zAB (hs:setOK c ts) (hp:zJ c ts.length plan borders) {p:Pt} (F:Flr c ts plan borders u q bq p h):callI SP .i64 zBM [.ptr p] h fun n h'=>n=sv (dpOf c ts plan borders).cntZ∧h'=h:=by
 obtain ⟨d1,d2,d3,d4,d5,d6,d7,d8,d9⟩:=dims hs hp
 have ok:=wF hs hp
 obtain ⟨fo,pw,cn,al,rfl,ob,f,_,vs,hvl,rvs,hrow⟩:=F
 have hlim:(dpOf c ts plan borders).lim≤46656:=zV (by show c.toNat≤6;omega) (by show (rw_ plan 0).length+1≤6;omega)
 have esz:(dpOf c ts plan borders).size=plan.length*(rw_ plan 0).length:=rfl
 have hcl:cn.len=(dpOf c ts plan borders).size+1:=by have:=rvs.len;rw [List.length_map,hvl,Nat.mul_one] at this;omega
 apply zCk
 unfold zcP
 refine ⟨rfl,rfl,ob.ldS (i:=5) rfl rfl ?_⟩
 refine zgF hs hp f ob ⟨rfl,?_⟩
 rw [←esz]
 refine rvs.ldS (by omega) (by omega) fun w hw=>?_
 rw [Int.toNat_natCast] at hw
 obtain ⟨l,rw1,y⟩:=hrow _ w hw
 have hwl:w.len=(dpOf c ts plan borders).lim:=by have:=rw1.ilen;rw [y.1] at this;exact this
 have htot:=Dp.fk_total ok (l:=(dpOf c ts plan borders).lim) rfl
 rw [hwl]
 refine zsi _ _ _ _ (fun t i g=>∃z:Nat,i=z∧z≤(dpOf c ts plan borders).lim∧t=sv (((List.range z).map fun s=>(dpOf c ts plan borders).fk (dpOf c ts plan borders).lim (dpOf c ts plan borders).size s).sum)∧g=h) (fun _ i _=>(((dpOf c ts plan borders).lim:Int)-i).toNat) ?_ _ _ ⟨0,rfl,by omega,rfl,rfl⟩
 rintro X t _ _ ⟨z,rfl,hz,rfl,rfl⟩ hX
 unfold zsk
 refine zc (fun hi=>?_) (fun hi=>?_)
 ·have hzl:z<(dpOf c ts plan borders).lim:=by omega
  refine rw1.ldG (by omega) (by rw [y.1];omega) ?_
  rw [Int.toNat_natCast,y.2 z hzl,zqk,zf (n:=(z:Int)+1) (by omega) (by omega)]
  refine hX _ _ _ ⟨z+1,by push_cast;rfl,by omega,?_,rfl⟩ (by omega)
  rw [List.range_succ,List.map_append,List.sum_append];simp
 ·unfold zEX
  have hzl:z=(dpOf c ts plan borders).lim:=by omega
  subst hzl
  exact ⟨_,rfl,by rw [htot],rfl⟩
noncomputable def zgn (c:Int) (ts:List Tile) (plan borders:List (List Int)):Int×Int:=if zX c ts plan borders=0 then cntR (dpOf c ts plan borders).cntZ else (0,zX c ts plan borders)
theorem planCodeF_zero {c:Int} {ts:List Tile} {plan borders:List (List Int)}:zX c ts plan borders=0↔setOK c ts∧zJ c ts.length plan borders:=by
 unfold zX
 exact ⟨fun h=>zM h,fun h=>zW h.1 h.2⟩
theorem zcu (hs:setOK c ts) (hp:zJ c ts.length plan borders) (ru:Rd h u 4 (tcs ts)) (rq:RdSS h q plan) (rb:RdSS h bq borders):
  callP SP zhh [.agg (SetC c u),.sl q,.sl bq] h fun p h'=>Flr c ts plan borders u q bq p h'∧Ext h h':=
 (Zd hs hp ru rq rb).to fun _ _ x=>x
theorem xG (r:Rd h u 4 (tcs ts)) (rr:RdSS h q plan) (rb:RdSS h bq borders) (sz:ts.length≤1048576) (szr:plan.length≤1048576) (hrs:∀l∈plan,l.length≤1048576) (szb:borders.length≤1048576) (hrb:∀l∈borders,l.length≤1048576):
  callV SP zBY [.agg (SetC c u),.sl q,.sl bq] h fun v h'=>v = .tuple [i64 (zgn c ts plan borders).1,i64 (zgn c ts plan borders).2]∧Ext h h':=by
 apply zDd
 unfold zeu
 refine zk fun h1 o1 x1 l1=>?_
 refine o1.ldA rfl ?_
 refine (qq (r.ext x1) (rr.ext x1) (rb.ext x1) sz szr hrs szb).to ?_
 rintro _ h2 ⟨rfl,x2⟩
 have X2:=x1.trans x2
 refine zF (fun hq=>⟨by unfold zgn;rw [if_neg hq],X2⟩) (fun hq=>?_)
 obtain ⟨hs,hp⟩:=planCodeF_zero.1 hq
 refine (o1.ext x2).ldA rfl ?_
 refine (zcu hs hp (r.ext X2) (rr.ext X2) (rb.ext X2)).to ?_
 rintro p h3 ⟨F,x3⟩
 refine (zAB hs hp F).to ?_
 rintro _ _ ⟨rfl,rfl⟩
 refine ziy _ ?_
 refine ⟨_,rfl,_,rfl,_,rfl,_,rfl,?_⟩
 exact ⟨by unfold zgn;rw [if_pos hq],X2.trans x3⟩
theorem znt {a b:Int} (ha:0≤a∧a≤5) (hb:0≤b∧b≤5):callS SP zrM [i64 a,i64 b] h fun v h'=>NewSS h.length h' v (zY a.toNat b.toNat)∧Ext h h':=by
 apply zye
 unfold Vn
 refine zj (by rfl) fun s h1 os ls so e1=>?_
 have x1:Ext h h1:=by rw [e1];exact Ext.app _ _
 refine zox _ _ _ _ (fun s i g=>∃z:Nat,i=z∧z≤a.toNat∧NewSS h.length g s (zY z b.toNat)∧Ext h g) (fun _ i _=>(a-i).toNat) ?_ _ _ ⟨0,rfl,by omega,NewSS.mk0 (by simpa using os) (fun o e=>by rw [so] at e;cases e;omega),x1⟩
 rintro X s _ g ⟨z,rfl,hz,ns,y⟩ hX
 unfold zkl
 refine zc (fun hi=>?_) (fun hi=>?_)
 ·refine zj (by rfl) fun t g1 ot lt to e2=>?_
  have y1:Ext g g1:=by rw [e2];exact Ext.app _ _
  refine (zqC (v:= -1) (n:=b) ot.rd (by omega) (by omega)).to ?_
  rintro v g2 ⟨ov,fv,y2⟩
  have y12:=y1.trans y2
  have hy:=y.len
  have hy1:=y1.len
  have hl:(zY z b.toNat).length=z:=by unfold zY;simp
  refine ns.pushZ (l:=List.replicate b.toNat (-1)) y12 (by unfold ic;rw [List.map_replicate];exact ov) (fv.le (by omega)) hy (by rw [hl];unfold lim;omega) fun s' g3 ns' b3 k3=>?_
  rw [zf (n:=(z:Int)+1) (by omega) (by omega)]
  refine hX _ _ _ ⟨z+1,by push_cast;rfl,by omega,?_,(y.trans y12).but_ b3 fun o e=>ns.frZ o e⟩ (by omega)
  have:zY (z+1) b.toNat=zY z b.toNat++[List.replicate b.toNat (-1)]:=by unfold zY;rw [List.replicate_succ']
  rw [this];exact ns'
 ·unfold zyg
  have hza:z=a.toNat:=by omega
  subst hza
  exact ⟨s,rfl,ns,y⟩
theorem zBr {s:Sl} {vs:List Sl} {g:H} (e:vs.length=4) (r:Rd g s 1 (vs.map .sl)) (hv:∀(i:Nat) v,vs[i]? = some v→v.len=0):RdSS g s openB:=by
 refine ⟨vs,e,r,fun i v l a b=>?_⟩
 have hi:=(List.getElem?_eq_some_iff.1 b).1
 have hi4:i<4:=hi
 have hl:l=[]:=by
  have hk':i=0∨i=1∨i=2∨i=3:=by omega
  rcases hk' with rfl | rfl | rfl | rfl <;> exact (Option.some.inj b).symm
 subst hl
 exact Rd.empty 1 (hv i v a)
theorem zse (hs:setOK c ts) (r:Rd h u 4 (tcs ts)) {a b:Int} (ha:1≤a∧a≤5) (hb:1≤b∧b≤5):callP SP zrr [.agg (SetC c u),i64 a,i64 b] h fun p h'=>(∃q bq,Flr c ts (zY a.toNat b.toNat) openB u q bq p h')∧Ext h h':=by
 apply zCf
 unfold zcF
 refine zk fun h1 o1 x1 n1=>?_
 refine qf fun h2 x2 n2=>?_
 have o2:=o1.ext x2
 have X2:=x1.trans x2
 refine o2.ldA rfl ?_
 refine (znt (a:=a) (b:=b) (by omega) (by omega)).to ?_
 rintro s h3 ⟨ns,x3⟩
 have o3:=o2.ext x3
 refine ⟨(o3.rangeE rfl).trans (o2.rangeE rfl).symm,?_⟩
 have hx3:=x3.len
 refine zBy (by omega) (by omega) (by unfold lim;omega) fun t h4 ot lt to b4 n4=>?_
 have o4:=o3.but b4 (fun e=>by have:=Option.some.inj e;have:=x1.len;omega)
 refine ⟨(o4.rangeE rfl).trans (o2.rangeE rfl).symm,?_⟩
 have hx1:=x1.len
 have X4:Ext h h4:=(X2.trans x3).but_ b4 (zi (by omega))
 have ns4:NewSS h2.length h4 s (zY a.toNat b.toNat):=ns.chg (b4.chg (P:=fun i=>i=h1.length+4) fun i e=>(Option.some.inj e).symm) fun i hi _=>by omega
 have rb:RdSS h4 t openB:=zBr (vs:=List.replicate 4 Sl.nil) rfl ot.rd fun i v e=>by
  rw [List.getElem?_replicate] at e
  split at e
  ·rw [←Option.some.inj e];rfl
  ·cases e
 have hp:zJ c ts.length (zY a.toNat b.toNat) openB:=Yu (by omega) (by omega)
 refine (zcu hs hp (r.ext X4) ns4.rd rb).to ?_
 rintro p h5 ⟨F,x5⟩
 exact ⟨_,rfl,⟨s,t,F⟩,X4.trans x5⟩
theorem zgq (hs:setOK c ts) (hp:zJ c ts.length plan borders) {p:Pt} (F:Flr c ts plan borders u q bq p h) {K:Bool→Prop} (hk:∀b,(b=true↔0<(dpOf c ts plan borders).cntZ)→K b):
  nilC (.ptr p) (isPt p (Cl.ldS (Pt.add p 6) h fun s3=>ixS s3 1 0 fun p4=>Cl.ldS p4 h fun s5=>ixS s5 1 0 fun p6=>Cl.ldB p6 h K)):=by
 obtain ⟨d1,d2,d3,d4,d5,d6,d7,d8,d9⟩:=dims hs hp
 have ok:=wF hs hp
 obtain ⟨fo,pw,cn,al,rfl,ob,f,⟨vs,hvl,rvs,hrow⟩,_⟩:=F
 refine ⟨rfl,rfl,ob.ldS (i:=6) rfl rfl ?_⟩
 refine rvs.ldS (by omega) (by omega) fun w hw=>?_
 obtain ⟨bl,rb,y⟩:=hrow 0 w hw
 have hl0:0<(dpOf c ts plan borders).lim:=Nat.pow_pos ok.hc
 refine rb.ldB (by omega) (by rw [y.1];omega) fun b hb=>hk b ?_
 have:=y.2 0 hl0
 rw [List.getD_eq_getElem?_getD,show bl[0]? = some b from hb] at this
 rw [Dp.cntZ_pos,←Dp.alive_zero ok]
 exact this
theorem vK (o:Nat) (n:Int) {h:H} (v:Var h o (i64 n)):callB SP zIF [.ptr (pt o)] h fun b h'=>(b=true↔1≤n∧n≤4)∧Ext h h':=by
 apply zCg
 unfold zcH
 refine v.ldI ?_
 exact wO ⟨_,rfl,by rw [decide_eq_true_eq],Ext.refl _⟩
noncomputable def sqF (c:Int) (ts:List Tile) (n:Int):Int×Int:=if yf (setOK c ts) (1≤n∧n≤4)=0 then cntR (yM c ts n.toNat n.toNat).cntZ else (0,yf (setOK c ts) (1≤n∧n≤4))
theorem yS (r:Rd h u 4 (tcs ts)) (sz:ts.length≤1048576) (n:Int):
  callV SP zrs [.agg (SetC c u),i64 n] h fun v h'=>v = .tuple [i64 (sqF c ts n).1,i64 (sqF c ts n).2]∧Ext h h':=by
 apply zCY
 unfold zek
 refine zk fun h1 o1 x1 n1=>?_
 refine yQ fun h2 v2 x2 n2=>?_
 have p1:=o1.ext x2
 have X:=x1.trans x2
 refine p1.ldA rfl ?_
 refine (zgK (r.ext X) (by omega) zIF _ (1≤n∧n≤4) fun hs g hg=>vK _ n (v2.ext hg)).to ?_
 rintro _ h4 ⟨rfl,x4⟩
 have X4:=X.trans x4
 refine zF (fun hne=>⟨by unfold sqF;rw [if_neg hne],X4⟩) (fun he=>?_)
 obtain ⟨hs,hn⟩:=zM he
 refine (p1.ext x4).ldA rfl ?_
 refine (v2.ext x4).ldI ((v2.ext x4).ldI ?_)
 refine (zse hs (r.ext X4) (a:=n) (b:=n) (by omega) (by omega)).to ?_
 rintro p h5 ⟨⟨q,bq,F⟩,x5⟩
 have hp:zJ c ts.length (zY n.toNat n.toNat) openB:=Yu (by omega) (by omega)
 refine (zAB hs hp F).to ?_
 rintro _ _ ⟨rfl,rfl⟩
 refine ziy _ ?_
 refine ⟨_,rfl,_,rfl,_,rfl,_,rfl,?_⟩
 exact ⟨by unfold sqF;rw [if_pos he];rfl,X4.trans x5⟩
def GrN (c:Int) (ts:List Tile) (n:Nat):Prop:=n≤5∧(∀k,k<n→0<(yM c ts (k+1) (k+1)).cntZ)∧(n<5→¬ 0<(yM c ts (n+1) (n+1)).cntZ)
theorem GrN.eq {n m:Nat} (a:GrN c ts n) (b:GrN c ts m):n=m:=by
 rcases Nat.lt_trichotomy n m with h | h | h
 ·exact absurd (b.2.1 n h) (a.2.2 (by have:=b.1;omega))
 ·exact h
 ·exact absurd (a.2.1 m h) (b.2.2 (by have:=a.1;omega))
def zEE (c:Int) (ts:List Tile) (h:H) (v:AVal) (h':H):Prop:=∃n:Nat,v = .tuple [i64 (n:Int),i64 (yf (setOK c ts) True)]∧(setOK c ts→GrN c ts n)∧(¬setOK c ts→n=0)∧Ext h h'
theorem vJ (r:Rd h u 4 (tcs ts)) (sz:ts.length≤1048576):callV SP zIO [.agg (SetC c u)] h (zEE c ts h):=by
 apply zCT
 unfold zea
 refine zk fun h1 o1 x1 n1=>?_
 refine o1.ldA rfl ?_
 refine (zgs (c:=c) (r.ext x1) (by omega)).to ?_
 rintro b h3 ⟨hb,x3⟩
 have X3:=x1.trans x3
 refine zr (fun hq=>?_) (fun hq=>?_)
 ·have hno:¬setOK c ts:=fun h=>by rw [hb.2 h] at hq;cases hq
  exact ⟨0,by rw [yN hno];rfl,fun h=>absurd h hno,fun _=>rfl,X3⟩
 have hs:=hb.1 hq
 have hc:=zW hs trivial
 refine zuh _ _ _ (fun i g=>∃z:Nat,i=z∧z≤5∧(∀k,k<z→0<(yM c ts (k+1) (k+1)).cntZ)∧Ext h3 g) (fun i _=>(5-i).toNat) ?_ _ ⟨0,rfl,by omega,fun k hk=>by omega,Ext.refl _⟩
 rintro X _ g ⟨z,rfl,hz,hall,y⟩ hX
 have Y:=X3.trans y
 have fin:∀{g':H},Ext g g'→(z<5→¬ 0<(yM c ts (z+1) (z+1)).cntZ)→zEE c ts h (.tuple [i64 (z:Int),i64 0]) g':=fun {g'} y' hn=>⟨z,by rw [hc],fun _=>⟨hz,hall,hn⟩,fun h=>absurd hs h,Y.trans y'⟩
 unfold zuj zuk
 refine zc (fun hi=>?_) (fun hi=>fin (Ext.refl _) fun h=>by omega)
 refine (o1.ext (x3.trans y)).ldA rfl ?_
 rw [zf (n:=(z:Int)+1) (by omega) (by omega)]
 refine (zse hs (r.ext Y) (a:=(z:Int)+1) (b:=(z:Int)+1) (by omega) (by omega)).to ?_
 rintro p g1 ⟨⟨q,bq,F⟩,y1⟩
 rw [show ((z:Int)+1).toNat=z+1 by omega] at F
 refine zgq hs (Yu (by omega) (by omega)) F fun b hb=>?_
 refine yy (fun hbt=>?_) (fun hbf=>fin y1 fun _ hp=>by rw [hb.2 hp] at hbf;cases hbf)
 refine hX _ _ ⟨z+1,by push_cast;rfl,by omega,fun k hk=>?_,y.trans y1⟩ (by omega)
 by_cases e:k=z
 ·subst e;exact hb.1 hbt
 ·exact hall k (by omega)
def sizC (c:Int) (ts:List Tile) (a b:Nat):Int:=if 0<(yM c ts a b).cntZ then 1 else 0
def sizR (c:Int) (ts:List Tile) (y:Nat):List Int:=(List.range 3).map fun x=>sizC c ts (y+1) (x+1)
def sizT (c:Int) (ts:List Tile) (n:Nat):List (List Int):=(List.range n).map (sizR c ts)
theorem zgG (c:Int) (ts:List Tile) (n:Nat):sizT c ts (n+1)=sizT c ts n++[sizR c ts n]:=by unfold sizT;rw [List.range_succ,List.map_append];rfl
noncomputable def zv (c:Int) (ts:List Tile):List (List Int):=if yf (setOK c ts) True=0 then sizT c ts 3 else []
theorem Y9 (r:Rd h u 4 (tcs ts)) (sz:ts.length≤1048576):callV SP zIM [.agg (SetC c u)] h fun v h'=>∃s,v = .tuple [.sl s,i64 (yf (setOK c ts) True)]∧NewSS h.length h' s (zv c ts)∧Ext h h':=by
 apply zCR
 unfold zdW
 refine zk fun h1 o1 x1 n1=>?_
 refine o1.ldA rfl ?_
 refine (zgs (c:=c) (r.ext x1) (by omega)).to ?_
 rintro b h3 ⟨hb,x3⟩
 have X3:=x1.trans x3
 refine zr (fun hq=>?_) (fun hq=>?_)
 ·have hno:¬setOK c ts:=fun h=>by rw [hb.2 h] at hq;cases hq
  refine ⟨Sl.nil,by rw [yN hno],?_,X3⟩
  unfold zv
  rw [yN hno,if_neg (by omega)];exact NewSS.nil _ _
 have hs:=hb.1 hq
 have hc:=zW hs trivial
 have hX3:=X3.len
 refine zj (by rfl) fun s4 h4 os ls so e4=>?_
 have x4:Ext h3 h4:=by rw [e4];exact Ext.app _ _
 refine ztX _ _ _ (fun s i g=>∃z:Nat,i=z+1∧z≤3∧NewSS h3.length g s (sizT c ts z)∧Ext h3 g) (fun _ i _=>(4-i).toNat) ?_ _ _ ⟨0,rfl,by omega,NewSS.mk0 (by simpa using os) (fun o e=>by rw [so] at e;cases e;omega),x4⟩
 rintro X0 s _ g ⟨z,rfl,hz,ns,y⟩ hX
 unfold zuc
 refine zc (fun hi=>?_) (fun hi=>?_)
 rotate_left
 ·unfold zGE
  have hz3:z=3:=by omega
  subst hz3
  refine ⟨s,by rw [hc],?_,X3.trans y⟩
  unfold zv
  rw [if_pos hc];exact ns.le hX3
 have hy:=y.len
 refine zj (by rfl) fun s0 g1 os0 ls0 so0 e1=>?_
 have y1:Ext g g1:=by rw [e1];exact Ext.app _ _
 refine ztW _ _ X0 _ _ _ (fun s6 j g'=>∃w:Nat,j=w+1∧w≤3∧Ow g' s6 1 (ic ((List.range w).map fun x=>sizC c ts (z+1) (x+1)))∧Fr g.length s6∧Ext g g') (fun _ j _=>(4-j).toNat) ?_ _ _ ⟨0,rfl,by omega,by simpa [ic] using os0,fun o e=>by rw [so0] at e;cases e;omega,y1⟩
 rintro X2 s6 _ g2 ⟨w,rfl,hw,os6,fs6,y2⟩ hY
 have Y2:=y.trans y2
 unfold zub
 refine zc (fun hj=>?_) (fun hj=>?_)
 ·refine (o1.ext (x3.trans Y2)).ldA rfl ?_
  refine (zse hs (r.ext (X3.trans Y2)) (a:=(z:Int)+1) (b:=(w:Int)+1) (by omega) (by omega)).to ?_
  rintro p g3 ⟨⟨q,bq,F⟩,y3⟩
  rw [show ((z:Int)+1).toNat=z+1 by omega,show ((w:Int)+1).toNat=w+1 by omega] at F
  refine zgq hs (Yu (by omega) (by omega)) F fun b hb=>?_
  have push:∀x:Int,x=sizC c ts (z+1) (w+1)→newS 1 1 [.int .i64 x] g3 fun t h1=>Cl.app s6 t 1 h1 fun s' g4=>X2 (Wo ⟨some h.length,2,0⟩ s ((z:Int)+1) s' (w64 ((w:Int)+1+1))) g4:=fun x hx=>by
   refine zj (by rfl) fun t g4 ot lt to e4=>?_
   have y4:Ext g3 g4:=by rw [e4];exact Ext.app _ _
   have hol:=os6.rd.ilen
   rw [List.length_map,List.length_range] at hol
   have hy23:=(y2.trans (y3.trans y4)).len
   refine yk (by omega) (os6.ext (y3.trans y4)) ot.rd (by rw [hol,lt];unfold lim;omega) fun s' g5 os' ls' b5 k1 k2=>?_
   rw [zf (n:=(w:Int)+1+1) (by omega) (by omega)]
   refine hY _ _ _ ⟨w+1,by push_cast;rfl,by omega,?_,fun o eo=>?_,(y2.trans (y3.trans y4)).but_ b5 fun o e=>fs6 o e⟩ (by omega)
   ·rw [List.range_succ,List.map_append,qS,List.map_cons,List.map_nil,←hx];exact os'
   ·cases hq:s6.o with
    | none=>have:=k2 hq o eo;omega
    | some q=>rw [k1 q hq] at eo;exact fs6 o (by rw [hq];exact eo)
  refine yy (fun hbt=>push 1 ?_) (fun hbf=>push 0 ?_)
  ·have this:0<(yM c ts (z+1) (w+1)).cntZ:=hb.1 hbt
   unfold sizC;rw [if_pos this]
  ·unfold sizC
   rw [if_neg fun hp:0<(yM c ts (z+1) (w+1)).cntZ=>by rw [hb.2 hp] at hbf;cases hbf]
 ·unfold zGC
  have hw3:w=3:=by omega
  subst hw3
  have hl:(sizT c ts z).length=z:=by unfold sizT;simp
  refine ns.pushZ y2 os6 (fs6.le (Nat.le_refl _)) (by omega) (by rw [hl];unfold lim;omega) fun s' g3 ns' b3 k3=>?_
  unfold zGD
  rw [zf (n:=(z:Int)+1+1) (by omega) (by omega)]
  refine hX _ _ _ ⟨z+1,by push_cast;rfl,by omega,?_,(y.trans y2).but_ b3 fun o e=>by have:=ns.frZ o e;omega⟩ (by omega)
  rw [zgG];exact ns'
end
end Go.Proofs.YtlcgclmobfdbcaaGreat.Cl
set_option linter.unusedVariables false
set_option linter.unusedSimpArgs false
namespace Go.Proofs.YtlcgclmobfdbcaaGreat.Cl
open Go
section
variable {c:Int} {ts:List Tile} {u:Sl} {h:H}
theorem XY {a b:Int} (ha:0≤a∧a≤100) (hb:0≤b∧b≤100):callS SP zhk [i64 a,i64 b] h fun v h'=>NewSS h.length h' v (zY a.toNat b.toNat)∧Ext h h':=by
 apply zxX
 unfold Vk
 refine zj (by rfl) fun s h1 os ls so e1=>?_
 have x1:Ext h h1:=by rw [e1];exact Ext.app _ _
 refine zou _ _ _ _ (fun s i g=>∃z:Nat,i=z∧z≤a.toNat∧NewSS h.length g s (zY z b.toNat)∧Ext h g) (fun _ i _=>(a-i).toNat) ?_ _ _ ⟨0,rfl,by omega,NewSS.mk0 (by simpa using os) (fun o e=>by rw [so] at e;cases e;omega),x1⟩
 rintro X s _ g ⟨z,rfl,hz,ns,y⟩ hX
 have hy:=y.len
 unfold zkk
 refine zc (fun hi=>?_) (fun hi=>?_)
 rotate_left
 ·unfold zyc
  have hza:z=a.toNat:=by omega
  subst hza
  exact ⟨s,rfl,ns,y⟩
 refine zj (by rfl) fun s0 g1 os0 ls0 so0 e2=>?_
 have y1:Ext g g1:=by rw [e2];exact Ext.app _ _
 refine zot _ _ X _ _ _ _ (fun s7 j g'=>∃w:Nat,j=w∧w≤b.toNat∧Ow g' s7 1 (ic (List.replicate w (-1)))∧Fr g.length s7∧Ext g g') (fun _ j _=>(b-j).toNat) ?_ _ _ ⟨0,rfl,by omega,by simpa [ic] using os0,fun o e=>by rw [so0] at e;cases e;omega,y1⟩
 rintro X2 s7 _ g2 ⟨w,rfl,hw,os7,fs7,y2⟩ hY
 unfold zkj
 refine zc (fun hj=>?_) (fun hj=>?_)
 ·refine zj (by rfl) fun t g4 ot lt to e4=>?_
  have y4:Ext g2 g4:=by rw [e4];exact Ext.app _ _
  have hol:=os7.rd.ilen
  rw [List.length_replicate] at hol
  have hy24:=(y2.trans y4).len
  refine yk (by omega) (os7.ext y4) ot.rd (by rw [hol,lt];unfold lim;omega) fun s' g5 os' ls' b5 k1 k2=>?_
  rw [zf (n:=(w:Int)+1) (by omega) (by omega)]
  refine hY _ _ _ ⟨w+1,by push_cast;rfl,by omega,?_,fun o eo=>?_,(y2.trans y4).but_ b5 fun o e=>fs7 o e⟩ (by omega)
  ·rw [List.replicate_succ',qS];exact os'
  ·cases hq:s7.o with
   | none=>have:=k2 hq o eo;omega
   | some q=>rw [k1 q hq] at eo;exact fs7 o (by rw [hq];exact eo)
 ·unfold zya
  have hwb:w=b.toNat:=by omega
  subst hwb
  have hl:(zY z b.toNat).length=z:=by unfold zY;simp
  refine ns.pushZ y2 os7 fs7 hy (by rw [hl];unfold lim;omega) fun s' g3 ns' b3 k3=>?_
  unfold zyb
  rw [zf (n:=(z:Int)+1) (by omega) (by omega)]
  refine hX _ _ _ ⟨z+1,by push_cast;rfl,by omega,?_,(y.trans y2).but_ b3 fun o e=>ns.frZ o e⟩ (by omega)
  have:zY (z+1) b.toNat=zY z b.toNat++[List.replicate b.toNat (-1)]:=by unfold zY;rw [List.replicate_succ']
  rw [this];exact ns'
theorem l03Open_c:callS SP zhj [] h fun v h'=>RdSS h' v openB∧NewSS h.length h' v openB∧Ext h h':=by
 apply zxU
 unfold Vj
 refine zj (by rfl) fun a h1 oa la ao e1=>?_
 have x1:Ext h h1:=by rw [e1];exact Ext.app _ _
 have n1:h1.length=h.length+1:=by rw [e1];simp
 refine zj (by rfl) fun b h2 ob lb bo e2=>?_
 have x2:Ext h1 h2:=by rw [e2];exact Ext.app _ _
 have n2:h2.length=h1.length+1:=by rw [e2];simp
 refine zj (by rfl) fun d h3 od ld do_ e3=>?_
 have x3:Ext h2 h3:=by rw [e3];exact Ext.app _ _
 have n3:h3.length=h2.length+1:=by rw [e3];simp
 refine zj (by rfl) fun e h4 oe le eo e4=>?_
 have x4:Ext h3 h4:=by rw [e4];exact Ext.app _ _
 have n4:h4.length=h3.length+1:=by rw [e4];simp
 refine zj (by rfl) fun s h5 os ls so e5=>?_
 have x5:Ext h4 h5:=by rw [e5];exact Ext.app _ _
 have X:Ext h h5:=(((x1.trans x2).trans x3).trans x4).trans x5
 have nw:NewSS h.length h5 s openB:=by
  refine ⟨[a,b,d,e],rfl,os,fun o eo'=>by rw [so] at eo';cases eo';omega,fun i v l hv hl=>?_,fun i j v w hij hv hw o e1 e2'=>?_,fun i v hv o e1 e2'=>?_⟩
  ·have hi:=(List.getElem?_eq_some_iff.1 hl).1
   have hi4:i<4:=hi
   have hk':i=0∨i=1∨i=2∨i=3:=by omega
   rcases hk' with rfl | rfl | rfl | rfl
   ·obtain rfl:=Option.some.inj hv;obtain rfl:=Option.some.inj hl
    exact ⟨oa.ext (((x2.trans x3).trans x4).trans x5),fun o q=>by rw [ao] at q;cases q;omega⟩
   ·obtain rfl:=Option.some.inj hv;obtain rfl:=Option.some.inj hl
    exact ⟨ob.ext ((x3.trans x4).trans x5),fun o q=>by rw [bo] at q;cases q;omega⟩
   ·obtain rfl:=Option.some.inj hv;obtain rfl:=Option.some.inj hl
    exact ⟨od.ext (x4.trans x5),fun o q=>by rw [do_] at q;cases q;omega⟩
   ·obtain rfl:=Option.some.inj hv;obtain rfl:=Option.some.inj hl
    exact ⟨oe.ext x5,fun o q=>by rw [eo] at q;cases q;omega⟩
  ·have key:∀(i:Nat) v,[a,b,d,e][i]? = some v→∀o,v.o=some o→o=h.length+i:=fun i v hv o q=>by
    have hi:=(List.getElem?_eq_some_iff.1 hv).1
    have hi4:i<4:=hi
    have hk':i=0∨i=1∨i=2∨i=3:=by omega
    rcases hk' with rfl | rfl | rfl | rfl
    ·obtain rfl:=Option.some.inj hv;rw [ao] at q;cases q;omega
    ·obtain rfl:=Option.some.inj hv;rw [bo] at q;cases q;omega
    ·obtain rfl:=Option.some.inj hv;rw [do_] at q;cases q;omega
    ·obtain rfl:=Option.some.inj hv;rw [eo] at q;cases q;omega
   have:=key i v hv o e1
   have:=key j w hw o e2'
   omega
  ·have hi:=(List.getElem?_eq_some_iff.1 hv).1
   have hi4:i<4:=hi
   rw [so] at e2'
   have hk':i=0∨i=1∨i=2∨i=3:=by omega
   rcases hk' with rfl | rfl | rfl | rfl
   ·obtain rfl:=Option.some.inj hv;rw [ao] at e1;have a1:=Option.some.inj e1;have a2:=Option.some.inj e2';omega
   ·obtain rfl:=Option.some.inj hv;rw [bo] at e1;have a1:=Option.some.inj e1;have a2:=Option.some.inj e2';omega
   ·obtain rfl:=Option.some.inj hv;rw [do_] at e1;have a1:=Option.some.inj e1;have a2:=Option.some.inj e2';omega
   ·obtain rfl:=Option.some.inj hv;rw [eo] at e1;have a1:=Option.some.inj e1;have a2:=Option.some.inj e2';omega
 exact ⟨s,rfl,nw.rd,nw,X⟩
theorem Zf (hs:setOK c ts) (r:Rd h u 4 (tcs ts)) {a b:Int} (ha:1≤a∧a≤5) (hb:1≤b∧b≤5):callI SP .i64 zrq [.agg (SetC c u),i64 a,i64 b] h fun n h'=>n=sv (yM c ts a.toNat b.toNat).cntZ∧Ext h h':=by
 apply zCe
 unfold zcD
 refine zk fun h1 o1 x1 n1=>?_
 refine o1.ldA rfl ?_
 refine (XY (a:=a) (b:=b) (by omega) (by omega)).to ?_
 rintro s h2 ⟨ns,x2⟩
 have o2:=o1.ext x2
 refine ⟨(o2.rangeE rfl).trans (o1.rangeE rfl).symm,?_⟩
 refine l03Open_c.to ?_
 rintro t h3 ⟨rt,_,x3⟩
 have o3:=o2.ext x3
 refine ⟨(o3.rangeE rfl).trans (o1.rangeE rfl).symm,?_⟩
 have hp:zJ c ts.length (zY a.toNat b.toNat) openB:=Yu (by omega) (by omega)
 have X3:=x1.trans (x2.trans x3)
 refine (XW hs hp (r.ext X3) (ns.rd.ext x3) rt).to ?_
 rintro v h4 ⟨⟨vs,hvl,rvs,hrow⟩,x4⟩
 have ok:=wF hs hp
 refine rvs.ldS (by omega) (by omega) fun w hw=>?_
 obtain ⟨l,rw1,y⟩:=hrow 0 w hw
 have hl0:0<(dpOf c ts (zY a.toNat b.toNat) openB).lim:=Nat.pow_pos ok.hc
 refine rw1.ldG (by omega) (by rw [y.1];omega) ?_
 refine ⟨_,rfl,?_,X3.trans x4⟩
 rw [show (0:Int).toNat=0 from rfl,y.2 0 hl0]
 rfl
theorem q8 (r:Rd h u 4 (tcs ts)) (sz:ts.length≤1048576) (n:Int):
  callV SP zIR [.agg (SetC c u),i64 n] h fun v h'=>v = .tuple [i64 (sqF c ts n).1,i64 (sqF c ts n).2]∧Ext h h':=by
 apply zCX
 unfold zei
 refine zk fun h1 o1 x1 n1=>?_
 refine o1.ldA rfl ?_
 refine (Yo (c:=c) (r.ext x1)).to ?_
 rintro b h3 ⟨hb,x3⟩
 have X3:=x1.trans x3
 refine zr (fun hq=>⟨?_,X3⟩) (fun hq=>?_)
 ·have hno:¬setOK c ts:=fun h=>by rw [hb.2 h] at hq;cases hq
  unfold sqF
  rw [yN hno];rfl
 have hs:=hb.1 hq
 refine (zjl n 1 4 h3).to ?_
 rintro _ h4 ⟨rfl,hh⟩
 obtain rfl:=hh.symm
 refine zr (fun hr=>⟨?_,X3⟩) (fun hr=>?_)
 ·have hno:¬(1≤n∧n≤4):=by simpa using hr
  unfold sqF
  rw [yG hs hno];rfl
 have hn:1≤n∧n≤4:=by simpa using hr
 have hc:=zW hs hn
 refine (o1.ext x3).ldA rfl ?_
 refine (Zf hs (r.ext X3) (a:=n) (b:=n) (by omega) (by omega)).to ?_
 rintro _ h5 ⟨rfl,x5⟩
 have e:sqF c ts n=cntR (yM c ts n.toNat n.toNat).cntZ:=by unfold sqF;rw [if_pos hc]
 rw [e]
 unfold cntR
 refine zc (fun hx=>⟨?_,X3.trans x5⟩) (fun hx=>⟨?_,X3.trans x5⟩)
 ·rw [if_neg (by unfold sv at hx;omega)]
 ·rw [if_pos (by unfold sv at hx;omega),show sv (yM c ts n.toNat n.toNat).cntZ=((yM c ts n.toNat n.toNat).cntZ:Int) by unfold sv at hx ⊢;omega]
theorem vz (r:Rd h u 4 (tcs ts)) (sz:ts.length≤1048576):callV SP zIN [.agg (SetC c u)] h (zEE c ts h):=by
 apply zCS
 unfold zdY
 refine zk fun h1 o1 x1 n1=>?_
 refine o1.ldA rfl ?_
 refine (Yo (c:=c) (r.ext x1)).to ?_
 rintro b h3 ⟨hb,x3⟩
 have X3:=x1.trans x3
 refine zr (fun hq=>?_) (fun hq=>?_)
 ·have hno:¬setOK c ts:=fun h=>by rw [hb.2 h] at hq;cases hq
  exact ⟨0,by rw [yN hno];rfl,fun h=>absurd h hno,fun _=>rfl,X3⟩
 have hs:=hb.1 hq
 have hc:=zW hs trivial
 refine zud _ _ _ (fun i g=>∃z:Nat,i=z∧z≤5∧(∀k,k<z→0<(yM c ts (k+1) (k+1)).cntZ)∧Ext h3 g) (fun i _=>(5-i).toNat) ?_ _ ⟨0,rfl,by omega,fun k hk=>by omega,Ext.refl _⟩
 rintro X _ g ⟨z,rfl,hz,hall,y⟩ hX
 have Y:=X3.trans y
 have fin:∀{g':H},Ext g g'→(z<5→¬ 0<(yM c ts (z+1) (z+1)).cntZ)→zEE c ts h (.tuple [i64 (z:Int),i64 0]) g':=fun {g'} y' hn=>⟨z,by rw [hc],fun _=>⟨hz,hall,hn⟩,fun h=>absurd hs h,Y.trans y'⟩
 unfold zuf zug
 refine zc (fun hi=>?_) (fun hi=>fin (Ext.refl _) fun h=>by omega)
 refine (o1.ext (x3.trans y)).ldA rfl ?_
 rw [zf (n:=(z:Int)+1) (by omega) (by omega)]
 refine (Zf hs (r.ext Y) (a:=(z:Int)+1) (b:=(z:Int)+1) (by omega) (by omega)).to ?_
 rintro _ g1 ⟨rfl,y1⟩
 rw [show ((z:Int)+1).toNat=z+1 by omega]
 refine zc (fun hbt=>?_) (fun hbf=>fin y1 fun _ hp=>hbf (sv_pos.2 hp))
 refine hX _ _ ⟨z+1,by push_cast;rfl,by omega,fun k hk=>?_,y.trans y1⟩ (by omega)
 by_cases e:k=z
 ·subst e;exact sv_pos.1 hbt
 ·exact hall k (by omega)
theorem Y3 (r:Rd h u 4 (tcs ts)) (sz:ts.length≤1048576):callV SP zIL [.agg (SetC c u)] h fun v h'=>∃s,v = .tuple [.sl s,i64 (yf (setOK c ts) True)]∧NewSS h.length h' s (zv c ts)∧Ext h h':=by
 apply zCP
 unfold zdU
 refine zk fun h1 o1 x1 n1=>?_
 refine o1.ldA rfl ?_
 refine (Yo (c:=c) (r.ext x1)).to ?_
 rintro b h3 ⟨hb,x3⟩
 have X3:=x1.trans x3
 refine zr (fun hq=>?_) (fun hq=>?_)
 ·have hno:¬setOK c ts:=fun h=>by rw [hb.2 h] at hq;cases hq
  refine ⟨Sl.nil,by rw [yN hno],?_,X3⟩
  unfold zv
  rw [yN hno,if_neg (by omega)];exact NewSS.nil _ _
 have hs:=hb.1 hq
 have hc:=zW hs trivial
 have hX3:=X3.len
 refine zj (by rfl) fun s4 h4 os ls so e4=>?_
 have x4:Ext h3 h4:=by rw [e4];exact Ext.app _ _
 refine ztQ _ _ _ (fun s i g=>∃z:Nat,i=z+1∧z≤3∧NewSS h3.length g s (sizT c ts z)∧Ext h3 g) (fun _ i _=>(4-i).toNat) ?_ _ _ ⟨0,rfl,by omega,NewSS.mk0 (by simpa using os) (fun o e=>by rw [so] at e;cases e;omega),x4⟩
 rintro X0 s _ g ⟨z,rfl,hz,ns,y⟩ hX
 unfold ztV
 refine zc (fun hi=>?_) (fun hi=>?_)
 rotate_left
 ·unfold zGx
  have hz3:z=3:=by omega
  subst hz3
  refine ⟨s,by rw [hc],?_,X3.trans y⟩
  unfold zv
  rw [if_pos hc];exact ns.le hX3
 have hy:=y.len
 refine zj (by rfl) fun s0 g1 os0 ls0 so0 e1=>?_
 have y1:Ext g g1:=by rw [e1];exact Ext.app _ _
 refine ztP _ _ X0 _ _ _ (fun s6 j g'=>∃w:Nat,j=w+1∧w≤3∧Ow g' s6 1 (ic ((List.range w).map fun x=>sizC c ts (z+1) (x+1)))∧Fr g.length s6∧Ext g g') (fun _ j _=>(4-j).toNat) ?_ _ _ ⟨0,rfl,by omega,by simpa [ic] using os0,fun o e=>by rw [so0] at e;cases e;omega,y1⟩
 rintro X2 s6 _ g2 ⟨w,rfl,hw,os6,fs6,y2⟩ hY
 have Y2:=y.trans y2
 unfold ztU
 refine zc (fun hj=>?_) (fun hj=>?_)
 ·refine (o1.ext (x3.trans Y2)).ldA rfl ?_
  refine (Zf hs (r.ext (X3.trans Y2)) (a:=(z:Int)+1) (b:=(w:Int)+1) (by omega) (by omega)).to ?_
  rintro _ g3 ⟨rfl,y3⟩
  rw [show ((z:Int)+1).toNat=z+1 by omega,show ((w:Int)+1).toNat=w+1 by omega]
  have hx:mnI (sv (yM c ts (z+1) (w+1)).cntZ) 1=sizC c ts (z+1) (w+1):=by
   unfold mnI sizC sv
   split <;> split <;> omega
  rw [hx]
  refine zj (by rfl) fun t g4 ot lt to e4=>?_
  have y4:Ext g3 g4:=by rw [e4];exact Ext.app _ _
  have hol:=os6.rd.ilen
  rw [List.length_map,List.length_range] at hol
  have hy23:=(y2.trans (y3.trans y4)).len
  refine yk (by omega) (os6.ext (y3.trans y4)) ot.rd (by rw [hol,lt];unfold lim;omega) fun s' g5 os' ls' b5 k1 k2=>?_
  rw [zf (n:=(w:Int)+1+1) (by omega) (by omega)]
  refine hY _ _ _ ⟨w+1,by push_cast;rfl,by omega,?_,fun o eo=>?_,(y2.trans (y3.trans y4)).but_ b5 fun o e=>fs6 o e⟩ (by omega)
  ·rw [List.range_succ,List.map_append,qS,List.map_cons,List.map_nil];exact os'
  ·cases hq:s6.o with
   | none=>have:=k2 hq o eo;omega
   | some q=>rw [k1 q hq] at eo;exact fs6 o (by rw [hq];exact eo)
 ·unfold zGv
  have hw3:w=3:=by omega
  subst hw3
  have hl:(sizT c ts z).length=z:=by unfold sizT;simp
  refine ns.pushZ y2 os6 (fs6.le (Nat.le_refl _)) (by omega) (by rw [hl];unfold lim;omega) fun s' g3 ns' b3 k3=>?_
  unfold zGw
  rw [zf (n:=(z:Int)+1+1) (by omega) (by omega)]
  refine hX _ _ _ ⟨z+1,by push_cast;rfl,by omega,?_,(y.trans y2).but_ b3 fun o e=>by have:=ns.frZ o e;omega⟩ (by omega)
  rw [zgG];exact ns'
end
end Go.Proofs.YtlcgclmobfdbcaaGreat.Cl
set_option linter.unusedVariables false
set_option linter.unusedSimpArgs false
namespace Go.Proofs.YtlcgclmobfdbcaaGreat.Cl
open Go
def bc (q:List Int):List AVal:=q.map (.int .u8)
theorem zNk (q:List Int):(bc q).length=q.length:=by simp [bc]
def Src (h:H) (o:Nat):Prop:=∃(s:Sl) (a x:Int) (q:List Int),Obj h o [.sl s,i64 a,.int .u64 x]∧Rd h s 1 (bc q)∧(s.len=0∨∀i,s.o=some i→i<o)∧0≤a∧a≤q.length∧q.length≤1000000∧∀b∈q,0≤b∧b<256
section
variable {h h':H} {o:Nat}
theorem Src.lt (r:Src h o):o<h.length:=by obtain ⟨_,_,_,_,a,_⟩:=r;exact a.lt
theorem Src.chg {P:Nat→Prop} (r:Src h o) (c:Chg P h h') (hP:∀i,i≤o→¬P i):Src h' o:=by
 obtain ⟨s,a,x,q,h1,h2,h3,h4⟩:=r
 refine ⟨s,a,x,q,h1.chg c (hP o (Nat.le_refl _)),?_,h3,h4⟩
 rcases h3 with h3 | h3
 ·exact ⟨h2.len,.inl h3⟩
 ·exact h2.chg c fun i e=>hP i (by have:=h3 i e;omega)
theorem zLE {s:Sl} {z:Nat} {cs:List AVal} (h3:s.len=0∨∀i,s.o=some i→i<o) (h2:Rd h s z cs) (b:But (some o) h h'):Rd h' s z cs:=by
 rcases h3 with h3 | h3
 ·exact ⟨h2.len,.inl h3⟩
 ·refine h2.but b ?_
  cases hs:s.o with
  | none=>exact .inl (by simp)
  | some i=>exact .inl fun e=>by have:=h3 i hs;have:=Option.some.inj e;omega
theorem Src.ext (r:Src h o) (e:Ext h h'):Src h' o:=r.chg (e.chg fun _=>False) fun _ _ f=>f
theorem Src.but {p:Option Nat} (r:Src h o) (b:But p h h') (hp:∀i,p=some i→o<i):Src h' o:=r.chg (b.chg (P:=fun i=>p=some i) fun i e=>e) fun i hi e=>by have:=hp i e;omega
theorem Rd.blen {s:Sl} {q:List Int} (r:Rd h s 1 (bc q)):s.len=q.length:=by have:=r.len;rw [zNk] at this;omega
theorem Rd.ldByte {s:Sl} {q:List Int} (r:Rd h s 1 (bc q)) {i:Int} (h0:0≤i) (h1:i<q.length) {K:Int→Prop} (hk:∀x,x∈q→K x):ixS s 1 i fun p=>Cl.ldI .u8 p h K:=by
 have hlen:=r.blen
 have hx:q[i.toNat]? = some q[i.toNat]:=List.getElem?_eq_getElem (by omega)
 obtain hl | ⟨a,b,c⟩:=r.at_
 ·omega
 ·refine ⟨⟨h0,by omega⟩,a,b,q[i.toNat],?_,hk _ (List.getElem_mem _)⟩
  have:=zU c (i:=i.toNat) (by omega)
  rw [Nat.mul_one,this]
  unfold bc
  rw [List.getElem?_map,hx]
  rfl
theorem zAU {n:Int} (h0:0≤n) (h1:n<18446744073709551616):IntKind.wrap .u64 n=n:=by
 unfold IntKind.wrap
 simp [IntKind.bits,IntKind.signed] <;> omega
theorem zAL (x:Int):0≤yj .and .u64 x 16777215∧yj .and .u64 x 16777215≤16777215:=by
 unfold yj
 simp only
 have h:((BitVec.ofInt (IntKind.u64).bits x) &&& (BitVec.ofInt (IntKind.u64).bits 16777215)).toNat≤16777215:=by
  rw [BitVec.toNat_and]
  exact Nat.le_trans Nat.and_le_right (by decide)
 rw [zAU (by omega) (by omega)]
 omega
def Nx (n x:Int):Prop:=0≤x∧(1≤n→x<n)∧(n<1→x=0)
theorem Nx.le {n x:Int} (h:Nx n x):x≤max n 0:=by
 by_cases hn:1≤n
 ·have:=h.2.1 hn;omega
 ·have:=h.2.2 (by omega);omega
theorem Nx.tmod {n y:Int} (hn:1≤n) (hy:0≤y):Nx n (Int.tmod y n):=by
 rw [Int.tmod_eq_emod_of_nonneg hy]
 exact ⟨Int.emod_nonneg _ (by omega),fun _=>Int.emod_lt_of_pos _ (by omega),fun h=>by omega⟩
theorem zH (r:Src h o) (n:Int):callI SP .i64 zZ [.ptr ⟨some o,3,0⟩,i64 n] h fun x h'=>Nx n x∧Src h' o∧But (some o) h h'∧h'.length=h.length:=by
 have hr:=r
 obtain ⟨s,a,x,q,h1,h2,h3,h4,h5,h6,h7⟩:=r
 have hl:=h2.blen
 apply zCE
 unfold zdA
 refine zc (fun hn=>⟨_,rfl,⟨by omega,fun h=>by omega,fun _=>rfl⟩,hr,But.refl _ _,rfl⟩) (fun hn=>?_)
 refine ⟨rfl,zh (h1.ldI rfl rfl ⟨rfl,zh ?_⟩)⟩
 refine h1.st1 rfl (by simp) _ fun g1 o1 b1 l1=>?_
 refine ⟨rfl,zh (o1.ldI rfl rfl ⟨by decide,⟨rfl,zh (o1.ldI (m:=a) rfl rfl ⟨rfl,zh (o1.ldS (m:=s) rfl rfl ?_)⟩)⟩⟩)⟩
 have r1:Rd g1 s 1 (bc q):=zLE h3 h2 b1
 have hb:=zAL (shrI .u64 (IntKind.wrap .u64 ((IntKind.wrap .u64 (x*6364136223846793005))+1442695040888963407)) 33)
 refine zc (fun hi=>?_) (fun hi=>?_)
 ·refine ⟨rfl,zh (o1.ldS (m:=s) rfl rfl ⟨rfl,zh (o1.ldI (m:=a) rfl rfl ?_)⟩)⟩
  refine r1.ldByte h4 (by omega) fun y hy=>?_
  have hy2:=h7 y hy
  refine ⟨rfl,zh (o1.ldI (m:=a) rfl rfl ⟨rfl,zh ?_⟩)⟩
  refine o1.st1 rfl (by simp) _ fun g2 o2 b2 l2=>?_
  refine ⟨by omega,?_⟩
  refine ⟨_,rfl,?_,?_,b1.trans b2,by omega⟩
  ·rw [zf (n:=y) (by omega) (by omega)]
   refine Nx.tmod (by omega) ?_
   generalize yj .and .u64 (shrI .u64 (IntKind.wrap .u64 ((IntKind.wrap .u64 (x*6364136223846793005))+1442695040888963407)) 33) 16777215=z at *
   rw [zf (n:=z) (by omega) (by omega),zf (n:=z+y) (by omega) (by omega)]
   omega
  ·refine ⟨s,w64 (a+1),_,q,o2,?_,h3,?_,?_,h6,h7⟩
   ·exact zLE h3 r1 b2
   ·rw [zf (by omega) (by omega)];omega
   ·rw [zf (by omega) (by omega)];omega
 ·refine ⟨by omega,?_⟩
  refine ⟨_,rfl,?_,⟨s,a,_,q,o1,r1,h3,h4,h5,h6,h7⟩,b1,l1⟩
  refine Nx.tmod (by omega) ?_
  generalize yj .and .u64 (shrI .u64 (IntKind.wrap .u64 ((IntKind.wrap .u64 (x*6364136223846793005))+1442695040888963407)) 33) 16777215=z at *
  rw [zf (n:=z) (by omega) (by omega)]
  omega
set_option maxRecDepth 20000 in
theorem zMd {s:Sl} {q:List Int} (r:Rd h s 1 (bc q)) (hs:s.len=0∨∀i,s.o=some i→i<h.length) (hq:q.length≤1000000) (hb:∀b∈q,0≤b∧b<256):callP SP zjn [.sl s] h fun p h'=>p=⟨some h.length,3,0⟩∧Src h' h.length∧Ext h h':=by
 have hl:=r.blen
 apply zCI
 unfold zdI
 refine zk fun h1 o1 x1 n1=>?_
 refine ztI _ _ _ _ (fun i g=>∃(k:Nat) (x:Int),i=k∧k≤q.length∧Obj g h.length [.sl s,i64 0,.int .u64 x]∧Chg (fun i=>i=h.length) h1 g) (fun i _=>((q.length:Int)-i).toNat) ?_ _ ⟨0,_,rfl,by omega,o1,Chg.refl _ _⟩
 rintro X _ g ⟨k,x,rfl,hk,og,ch⟩ hX
 have E:Ext h g:=x1.chg_ ch fun i e=>by omega
 have rg:=r.ext E
 have fin:ztL SP (fun v h'=>∃r,v = .ptr r∧r=⟨some h.length,3,0⟩∧Src h' h.length∧Ext h h') ⟨some h.length,3,0⟩ g:=⟨_,rfl,rfl,⟨s,0,x,q,og,rg,hs,by omega,by omega,hq,hb⟩,E⟩
 unfold ztK
 refine zc (fun hi=>?_) (fun hi=>fin)
 refine yy (fun _=>?_) (fun _=>fin)
 refine ⟨rfl,zh (og.ldI rfl rfl ?_)⟩
 refine rg.ldByte (by omega) (by omega) fun y hy=>?_
 refine ⟨rfl,zh ?_⟩
 refine og.st1 rfl (by simp) _ fun g2 o2 b2 l2=>?_
 rw [zf (by omega) (by omega)]
 exact hX _ _ ⟨k+1,_,by push_cast;rfl,by omega,o2,ch.trans (b2.chg fun i e=>(Option.some.inj e).symm)⟩ (by omega)
theorem zlw (r:Src h o) {s:Sl} {l:List Int} (rs:Rd h s 1 (ic l)) (hs:s.o≠some o) (hl:1≤l.length):callI SP .i64 Zi [.ptr ⟨some o,3,0⟩,.sl s] h fun x h'=>x∈l∧Src h' o∧But (some o) h h'∧h'.length=h.length:=by
 have hsl:=rs.ilen
 apply zCD
 unfold zdy
 refine (zH r _).to ?_
 rintro x h1 ⟨hx,r1,b1,l1⟩
 have:=hx.2.1 (by omega)
 refine (rs.but b1 (.inl fun e=>hs e.symm)).ldI hx.1 (by omega) fun y hy=>?_
 exact ⟨_,rfl,List.mem_of_getElem? hy,r1,b1,l1⟩
theorem vF (r:Src h o) {n:Nat} {cs:List AVal} {l:List Int} (hcs:cs=ic l) (hn:l.length=n) (hl:1≤l.length) {K:Int→H→Prop} (hk:∀x h',x∈l→Src h' o→Chg (fun i=>i=o) h h'→K x h'):
  newS n 1 cs h fun s h1=>callI SP .i64 Zi [.ptr ⟨some o,3,0⟩,.sl s] h1 K:=by
 subst hcs
 refine zj (by rw [vm,hn,Nat.mul_one]) fun s h1 os ls so e1=>?_
 have x1:Ext h h1:=by rw [e1];exact Ext.app _ _
 have hlt:=r.lt
 refine (zlw (r.ext x1) os.rd (by rw [so];intro e;have:=Option.some.inj e;omega) hl).to ?_
 rintro x h2 ⟨hx,r2,b2,_⟩
 exact hk x h2 hx r2 ((x1.chg _).trans (b2.chg fun i e=>(Option.some.inj e).symm))
theorem zEP (r:Src h o) (n:Int) (hn:0≤n∧n≤1000000):callI SP .i64 zBL [.ptr ⟨some o,3,0⟩,i64 n] h fun x h'=>vL x∧Src h' o∧Chg (fun i=>i=o) h h':=by
 apply zCj
 unfold zcN
 refine (zH r _).to ?_
 rintro x h1 ⟨hx,r1,b1,l1⟩
 have c1:Chg (fun i=>i=o) h h1:=b1.chg fun i e=>(Option.some.inj e).symm
 rw [zf (n:=n+1) (by omega) (by omega)]
 refine zp (fun he=>?_) (fun hne=>?_)
 ·refine vF r1 (l:=[-1,n+1,1099511627776,-4611686018427387904]) rfl rfl (by simp) fun y h2 hy r2 c2=>?_
  refine ⟨_,rfl,?_,r2,c1.trans c2⟩
  unfold vL
  simp at hy
  omega
 ·refine (zH r1 _).to ?_
  rintro y h2 ⟨hy,r2,b2,l2⟩
  refine ⟨_,rfl,?_,r2,c1.trans (b2.chg fun i e=>(Option.some.inj e).symm)⟩
  have:=hy.2.1 (by omega)
  have:=hy.1
  unfold vL
  omega
def DT (c:Int) (t:Tile):Prop:=∀k,k<4→Nx c (sd t k)
theorem zbX (r:Src h o) (c:Int):callA SP zlV [.ptr ⟨some o,3,0⟩,i64 c] h fun cs h'=>∃t,cs=tc t∧DT c t∧Src h' o∧Chg (fun i=>i=o) h h':=by
 apply zAh
 unfold Qn
 refine zo fun h1 o1 x1 n1=>?_
 have hlt:=r.lt
 have r1:=r.ext x1
 refine (zH r1 c).to ?_
 rintro a h2 ⟨ha,r2,b2,l2⟩
 refine (zH r2 c).to ?_
 rintro b h3 ⟨hb,r3,b3,l3⟩
 refine (zH r3 c).to ?_
 rintro d h4 ⟨hd,r4,b4,l4⟩
 refine (zH r4 c).to ?_
 rintro e h5 ⟨he,r5,b5,l5⟩
 have b15:=((b2.trans b3).trans b4).trans b5
 have o5:=o1.but b15 (fun e=>by have:=Option.some.inj e;omega)
 refine o5.stA fun h6 o6 b6 n6=>?_
 refine o6.ldA rfl ⟨_,rfl,(a,b,d,e),rfl,fun k hk=>?_,r5.but b6 (fun i e=>by have:=Option.some.inj e;omega),?_⟩
 ·have hk':k=0∨k=1∨k=2∨k=3:=by omega
  rcases hk' with rfl | rfl | rfl | rfl
  ·exact ha
  ·exact hb
  ·exact hd
  ·exact he
 ·exact (((x1.chg (fun i=>i=o∨h.length≤i)).trans (b15.chg fun i e=> .inl (Option.some.inj e).symm)).trans (b6.chg fun i e=> .inr (by have:=Option.some.inj e;omega))).to fun i hi e=>by omega
end
end Go.Proofs.YtlcgclmobfdbcaaGreat.Cl
set_option linter.unusedVariables false
set_option linter.unusedSimpArgs false
namespace Go.Proofs.YtlcgclmobfdbcaaGreat.Cl
open Go
theorem xI {t:ByteArray} {i:Int} (h0:0≤i) (h1:i<t.size) {K:Int→Prop} (hk:∀b:Int,0≤b→b<256→K b):Y7 t i K:=by
 have hlt:i.toNat<t.size:=by omega
 refine ⟨t[i.toNat],h0,getElem?_pos t i.toNat hlt,hk _ (by omega) ?_⟩
 have:=t[i.toNat].toNat_lt
 omega
theorem zix {t:ByteArray} {a b:Int} (h0:0≤a) (h1:a≤b) (h2:b≤t.size) {K:ByteArray→Prop} (hk:∀s:ByteArray,s.size≤t.size→K s):zbY t a b K:=by
 refine ⟨⟨h0,h1,h2⟩,hk _ ?_⟩
 rw [ByteArray.size_extract]
 omega
theorem yE {t:ByteArray} {K:ByteArray→Prop} (hk:K t):yi (.str t) K:=⟨t,rfl,hk⟩
theorem zIo {h:H} {s:Sl} {l:List AVal} {x:AVal} (r:Ow h s 1 l) (hl:(l.length:Int)+1≤lim) {K:Sl→H→Prop}
  (hk:∀s' h',Ow h' s' 1 (l++[x])→But s.o h h'→(∀o,s'.o=some o→s.o=some o∨h.length≤o)→h.length≤h'.length→K s' h'):newS 1 1 [x] h fun t h1=>app s t 1 h1 K:=by
 refine zj (by rfl) fun t h1 ot tl to e1=>?_
 have e1':Ext h h1:=by rw [e1];exact Ext.app _ _
 have hln:=e1'.len
 have hsl:s.len=l.length:=by have:=r.len;omega
 refine yk (by omega) (r.ext e1') ot.rd (by rw [tl,hsl];exact_mod_cast hl) fun s' h' o' ln b k1 k2=>hk s' h' o' ((e1'.but _).trans b) (fun o e=>?_) (Nat.le_trans hln b.1)
 cases hq:s.o with
 | none=>have:=k2 hq o e;exact .inr (by omega)
 | some p=>rw [k1 p hq] at e;exact .inl e
def RdT (h:H) (s:Sl) (L:List ByteArray):Prop:=Rd h s 1 (L.map .str)∧∀x∈L,x.size≤1000
theorem RdT.len {h s L} (r:RdT h s L):s.len=L.length:=by have:=r.1.len;rw [List.length_map] at this;omega
theorem RdT.ext {h h' s L} (r:RdT h s L) (x:Ext h h'):RdT h' s L:=⟨r.1.ext x,r.2⟩
theorem RdT.ld {h:H} {s:Sl} {L:List ByteArray} (r:RdT h s L) {i:Int} (h0:0≤i) (h1:i<L.length) {K:AVal→Prop} (hk:∀x:ByteArray,x.size≤1000→K (.str x)):ixS s 1 i fun p=>Cl.ldV p h K:=by
 have hlen:=r.len
 have hx:L[i.toNat]? = some L[i.toNat]:=List.getElem?_eq_getElem (by omega)
 obtain hl | ⟨a,b,c⟩:=r.1.at_
 ·omega
 ·refine ⟨⟨h0,by omega⟩,a,b,.str L[i.toNat],?_,hk _ (r.2 _ (List.getElem_mem _))⟩
  have:=zU c (i:=i.toNat) (by omega)
  rw [Nat.mul_one,this,List.getElem?_map,hx]
  rfl
section
variable {h:H}
theorem zqr (t:ByteArray) (ht:t.size≤1000) (b:Int):callS SP zlN [.str t,.int .u8 b] h fun u h'=>∃L,RdT h' u L∧L.length≤t.size+1∧Fr h.length u∧Ext h h':=by
 apply zwd
 unfold Ww
 refine zj (by rfl) fun u h1 ou lu uo e1=>?_
 have x1:Ext h h1:=by rw [e1];exact Ext.app _ _
 refine znO _ _ _ _ (fun u a i g=>∃(L:List ByteArray) (k m:Nat),a=k∧i=m∧k≤m∧m≤t.size∧Ow g u 1 (L.map .str)∧(∀x∈L,x.size≤1000)∧L.length≤m∧Fr h.length u∧Ext h g) (fun _ _ i _=>((t.size:Int)-i).toNat) ?_ _ _ _
  ⟨[],0,0,rfl,rfl,Nat.le_refl _,by omega,ou,fun x hx=>(by cases hx),Nat.le_refl _,fun o e=>(by rw [uo] at e;cases e;exact Nat.le_refl _),x1⟩
 rintro X u _ _ g ⟨L,k,m,rfl,rfl,hkm,hm,ou,hL,hl,fu,x⟩ hX
 have hgl:=x.len
 unfold zjN
 refine yE ?_
 refine zc (fun hi=>?_) (fun hi=>?_)
 ·refine yE (xI (by omega) hi fun y y0 y1=>?_)
  refine zp (fun _=>?_) (fun _=>?_)
  ·refine yE (zix (by omega) (by omega) (by omega) fun w hw=>?_)
   refine zIo ou (by rw [List.length_map];unfold lim;omega) fun u' g' ou' b' hu' hl'=>?_
   rw [zf (by omega) (by omega)]
   refine hX _ _ _ _ ⟨L++[w],m+1,m+1,by push_cast;rfl,by push_cast;rfl,Nat.le_refl _,by omega,by rw [List.map_append];exact ou',fun x hx=>?_,by rw [List.length_append,List.length_singleton];omega,fun o e=>?_,x.but_ b' fun o e=>fu o e⟩ (by omega)
   ·rcases List.mem_append.1 hx with hx | hx
    ·exact hL x hx
    ·rw [List.mem_singleton] at hx;subst hx;omega
   ·rcases hu' o e with h1 | h1
    ·exact fu o h1
    ·omega
  ·rw [zf (by omega) (by omega)]
   exact hX _ _ _ _ ⟨L,k,m+1,rfl,by push_cast;rfl,by omega,by omega,ou,hL,by omega,fu,x⟩ (by omega)
 ·unfold zwf
  refine yE (zix (by omega) (by omega) (by omega) fun w hw=>?_)
  refine zIo ou (by rw [List.length_map];unfold lim;omega) fun u' g' ou' b' hu' hl'=>?_
  refine ⟨u',rfl,L++[w],⟨by rw [List.map_append];exact ou'.rd,fun x hx=>?_⟩,by rw [List.length_append,List.length_singleton];omega,fun o e=>?_,x.but_ b' fun o e=>fu o e⟩
  ·rcases List.mem_append.1 hx with hx | hx
   ·exact hL x hx
   ·rw [List.mem_singleton] at hx;subst hx;omega
  ·rcases hu' o e with h1 | h1
   ·exact fu o h1
   ·omega
theorem zBu (t:ByteArray) (ht:t.size≤1000):callI SP .i64 zru [.str t] h fun n h'=>h=h':=by
 apply zwb
 unfold Wu
 have loop:¬(t.size:Int)>9→zfS SP (fun v h'=>∃r,v = .int .i64 r∧h=h') (.str t) 0 0 h:=fun h9=>by
  refine znM _ _ _ (fun n i g=>∃m:Nat,i=m∧m≤t.size∧g=h) (fun _ i _=>((t.size:Int)-i).toNat) ?_ _ _ ⟨0,rfl,by omega,rfl⟩
  rintro X n _ g ⟨m,rfl,hm,rfl⟩ hX
  unfold zjM
  refine yE ?_
  refine zc (fun hi=>?_) (fun hi=>⟨_,rfl,rfl⟩)
  refine yE (xI (by omega) hi fun y _ _=>?_)
  refine zc (fun _=>⟨_,rfl,rfl⟩) (fun _=>?_)
  refine yE (xI (by omega) hi fun y _ _=>?_)
  refine zc (fun _=>⟨_,rfl,rfl⟩) (fun _=>?_)
  refine yE (xI (by omega) hi fun y _ _=>?_)
  rw [zf (n:=(m:Int)+1) (by omega) (by omega)]
  exact hX _ _ _ ⟨m+1,by push_cast;rfl,by omega,rfl⟩ (by omega)
 refine yE ?_
 refine zp (fun _=>⟨_,rfl,rfl⟩) (fun _=>?_)
 refine yE ?_
 refine zc (fun _=>⟨_,rfl,rfl⟩) (fun h9=>?_)
 refine yE ?_
 refine zc (fun hi=>?_) (fun _=>loop h9)
 refine yE (xI (by omega) (by omega) fun y _ _=>?_)
 exact zp (fun _=>⟨_,rfl,rfl⟩) (fun _=>loop h9)
def WSet (c:Int) (ts:List Tile):Prop:=setOK c ts∨(c=0∧ts=[])
theorem WSet.len {c ts} (h:WSet c ts):ts.length≤16:=by
 rcases h with h | h
 ·exact h.2.1
 ·rw [h.2];simp
theorem WSet.col {c ts} (h:WSet c ts):0≤c∧c≤6:=by
 rcases h with h | h
 ·have:=h.1;omega
 ·omega
def RdR (h:H) (v:AVal) (h':H):Prop:=∃u c ts f,v = .tuple [.agg (SetC c u),.bool f]∧Rd h' u 4 (tcs ts)∧WSet c ts∧Fr h.length u∧Ext h h'
theorem RdR.no {g:H} {o:Nat} {cs:List AVal} (p:Obj g o cs) (hcs:cs.length=2) {f:Bool} (hx:h.length≤o) (x:Ext h g):
  stN ⟨some o,2,0⟩ 2 [.int .i64 0,.sl Sl.nil] g fun h9=>ldA ⟨some o,2,0⟩ 2 h9 fun cs10=>RdR h (.tuple [.agg cs10,.bool f]) h9:=by
 refine p.stA (fun h6 o6 b6 n6=>?_) hcs
 exact o6.ldA rfl ⟨Sl.nil,0,[],f,rfl,Rd.nil _ _,.inr ⟨rfl,rfl⟩,Fr.nil _,x.but_ b6 (zi hx)⟩
theorem zLJ (t:ByteArray) (ht:t.size≤1000):callV SP zrz [.str t] h (RdR h):=by
 apply zwu
 unfold WF
 refine zo fun h1 o1 x1 n1=>?_
 refine (zqr t ht _).to ?_
 rintro u h2 ⟨L,rL,hL,fu,x2⟩
 have X2:=x1.trans x2
 have hul:=rL.len
 have hx2:=x2.len
 refine zF (fun _=>RdR.no (o1.ext x2) rfl (Nat.le_refl _) X2) (fun h2l=>?_)
 refine rL.ld (by omega) (by omega) fun a ha=>?_
 refine (zBu a ha).to ?_
 rintro n _ rfl
 refine zj (by rfl) fun w h3 ow lw wo e3=>?_
 have x3:Ext h2 h3:=by rw [e3];exact Ext.app _ _
 have n3:h3.length=h2.length+1:=by rw [e3];simp
 refine zo fun h4 o4 x4 n4=>?_
 refine o4.stA fun h5 o5 b5 n5=>?_
 have x35:Ext h3 h5:=x4.but_ b5 (zi (Nat.le_refl _))
 have x25:=x3.trans x35
 have X5:=X2.trans x25
 have fin:∀{g:H} {w:Sl} {ts:List Tile},Ext h2 g→Obj g h3.length [i64 n,.sl w]→Ow g w 4 (tcs ts)→Fr h2.length w→zjS SP (RdR h) ⟨some h.length,2,0⟩ ⟨some h3.length,2,0⟩ g:=fun {g w ts} E og ow fw=>by
  unfold zjS
  have Eg:=X2.trans E
  refine og.ldA rfl ?_
  refine (Yo (c:=n) ow.rd).to ?_
  rintro b g1 ⟨hb,y1⟩
  have p1:=(o1.ext (x2.trans E)).ext y1
  refine zr (fun _=>RdR.no p1 rfl (Nat.le_refl _) (Eg.trans y1)) (fun hq=>?_)
  refine (og.ext y1).ldA rfl ?_
  refine p1.stA fun g2 q2 b2 m2=>?_
  refine q2.ldA rfl ⟨w,n,ts,true,rfl,(ow.ext y1).rd.but b2 ?_,.inl (hb.1 hq),fw.le (by omega),(Eg.trans y1).but_ b2 (zi (Nat.le_refl _))⟩
  refine .inl fun e=>?_
  have:=fw _ e.symm
  omega
 refine (rL.ext x25).ld (by omega) (by omega) fun a2 ha2=>?_
 refine ⟨a2,rfl,ByteArray.empty,rfl,?_⟩
 refine zr (fun hne=>?_) (fun _=>?_)
 ·refine (rL.ext x25).ld (by omega) (by omega) fun a3 ha3=>?_
  refine (zqr a3 ha3 _).to ?_
  rintro v h6 ⟨M,rM,hM,fv,x6⟩
  have hml:=rM.len
  refine znW _ _ _ _ _ (fun i g=>∃(k:Nat) (w:Sl) (ts:List Tile),i=k∧k≤M.length∧Obj g h3.length [i64 n,.sl w]∧Ow g w 4 (tcs ts)∧w.o=some h2.length∧ts.length≤k∧Chg (fun o=>o=h2.length∨o=h3.length) h6 g) (fun i _=>((M.length:Int)-i).toNat) ?_ _
   ⟨0,w,[],rfl,by omega,o5.ext x6,(by simpa [tcs] using (ow.ext (x35.trans x6))),wo,Nat.le_refl _,Chg.refl _ _⟩
  rintro X _ g ⟨k,w,ts,rfl,hk,og,ow,wo,htl,ch⟩ hX
  have E2:Ext h2 g:=(x25.trans x6).chg_ ch fun i e=>by omega
  unfold zjR
  refine zc (fun hi=>?_) (fun _=>fin E2 og ow (fun o e=>by rw [wo] at e;cases e;exact Nat.le_refl _))
  have rMg:RdT g v M:=⟨rM.1.chg ch fun i e=>by have:=fv i e;have:=x25.len;omega,rM.2⟩
  refine rMg.ld (by omega) (by omega) fun a4 ha4=>?_
  refine yE ?_
  refine zF (fun _=>RdR.no ((o1.ext (x2.trans (x25.trans x6))).chg ch (by omega)) rfl (Nat.le_refl _) (X2.trans E2)) (fun h4=>?_)
  refine zh (og.ldS (m:=w) rfl rfl ?_)
  refine yE (xI (by omega) (by omega) fun y0 _ _=>?_)
  refine yE (xI (by omega) (by omega) fun y1 _ _=>?_)
  refine yE (xI (by omega) (by omega) fun y2 _ _=>?_)
  refine yE (xI (by omega) (by omega) fun y3 _ _=>?_)
  refine ⟨rfl,?_⟩
  refine zj (z:=4) (n:=1) (by rfl) fun x g1 ox lx xo e1=>?_
  have z1:Ext g g1:=by rw [e1];exact Ext.app _ _
  have og1:=og.ext z1
  refine ⟨(og1.cellE (n:=2) rfl).trans (og.cellE (n:=2) rfl).symm,?_⟩
  have hwl:=ow.rd.tlen
  have hkM:M.length≤1001:=by omega
  refine yk (by omega) (ow.ext z1) ox.rd (by rw [lx,hwl];unfold lim;omega) fun w' g2 ow2 lw2 b2 k1 _=>?_
  have wo2:=k1 _ wo
  rw [wo] at b2
  have og2:=og1.but b2 (fun e=>by have:=Option.some.inj e;omega)
  refine zh ?_
  refine og2.st1 rfl (by simp) _ fun g3 og3 b3 m3=>?_
  rw [zf (n:=(k:Int)+1) (by omega) (by omega)]
  refine hX _ _ ⟨k+1,w',ts++[(w64 ((w64 y0)-48),w64 ((w64 y1)-48),w64 ((w64 y2)-48),w64 ((w64 y3)-48))],by push_cast;rfl,by omega,og3,?_,wo2,by rw [List.length_append,List.length_singleton];omega,?_⟩ (by omega)
  ·refine Ow.but (o:=some h3.length) ?_ b3 (.inl fun e=>by rw [wo2] at e;have:=Option.some.inj e;omega)
   rw [Ya,zqi]
   exact ow2
  ·exact ch.trans (((z1.chg _).trans (b2.chg fun i e=> .inl (Option.some.inj e).symm)).trans (b3.chg fun i e=> .inr (Option.some.inj e).symm))
 ·have:=fin (ts:=[]) x25 o5 (by simpa [tcs] using ow.ext x35) (fun o e=>by rw [wo] at e;cases e;exact Nat.le_refl _)
  exact this
end
end Go.Proofs.YtlcgclmobfdbcaaGreat.Cl
set_option linter.unusedVariables false
set_option linter.unusedSimpArgs false
namespace Go.Proofs.YtlcgclmobfdbcaaGreat.Cl
open Go
section
variable {h0:H} {s:Sl} {l:List Tile}
theorem zLX {A:List Tile} {x:Tile} {q:Nat} (hp:A.Pairwise ltT) (hq:q≤A.length) (hgt:∀j (hj:j<A.length),q≤j→ltT x A[j]) (hlt:∀(h:0<q),ltT (A[q-1]'(by omega)) x):(A.take q++x::A.drop q).Pairwise ltT:=by
 rw [List.pairwise_append]
 refine ⟨hp.sublist (List.take_sublist _ _),?_,fun a ha b hb=>?_⟩
 ·refine List.pairwise_cons.2 ⟨fun b hb=>?_,hp.sublist (List.drop_sublist _ _)⟩
  obtain ⟨j,hj,rfl⟩:=List.getElem_of_mem hb
  rw [List.getElem_drop]
  exact hgt _ _ (by omega)
 ·obtain ⟨j,hj,rfl⟩:=List.getElem_of_mem ha
  have hj':j<q:=by rw [List.length_take] at hj;omega
  rw [List.getElem_take]
  have hax:ltT A[j] x:=by
   by_cases e:j=q-1
   ·subst e;exact hlt (by omega)
   ·exact ltT_sto.trans _ _ _ (List.pairwise_iff_getElem.1 hp j (q-1) (by omega) (by omega) (by omega)) (hlt (by omega))
  rcases List.mem_cons.1 hb with rfl | hb
  ·exact hax
  ·obtain ⟨k,hk,rfl⟩:=List.getElem_of_mem hb
   rw [List.getElem_drop]
   exact ltT_sto.trans _ _ _ hax (hgt _ _ (by omega))
theorem zBI {h:H} {s3:Sl} {A:List Tile} {x:Tile} {q n:Nat} (o:Ow h s3 4 (tcs A)) (f:Fr n s3) (hn:n≤h.length) (so:s3.o.isSome=true) (hq:q≤A.length) (hA:A.length≤1000000) {K:Sl→H→Prop}
  (hk:∀u h',Ow h' u 4 (tcs (A.take q++x::A.drop q))→Fr n u→u.o.isSome=true→Ext h h'→K u h'):
  newS 1 4 (tc x) h fun s7 h8=>cut s3 4 (q:Int) (s3.len:Int) h8 fun s9=>okS h s3∧(app s7 s9 4 h8 fun s10 h11=>newS 0 4 [] h11 fun s12 h13=>cut s3 4 0 (q:Int) h13 fun s14=>app s12 s14 4 h13 fun s15 h16=>app s15 s10 4 h16 fun s17 h18=>K s17 h18):=by
 obtain ⟨p,hp⟩:=Option.isSome_iff_exists.1 so
 have hl:=o.rd.tlen
 refine zj (by rfl) fun s7 h8 o7 l7 e7 y8=>?_
 have x8:Ext h h8:=by rw [y8];exact Ext.app _ _
 have n8:h8.length=h.length+1:=by rw [y8];simp
 refine (o.ext x8).cutV hp (by omega) (by omega) (by omega) ?_
 refine ⟨o.pre.ok,?_⟩
 rw [Int.toNat_natCast,show ((s3.len:Int)-(q:Int)).toNat=A.length-q by omega]
 have v9:=(o.ext x8).viewT hp (lo:=q) (n:=A.length-q) (by omega)
 rw [List.take_of_length_le (by rw [List.length_drop];omega)] at v9
 refine yk (by omega) o7 v9 (by rw [l7];show ((1+(A.length-q):Nat):Int)≤lim;unfold lim;omega) fun s10 h11 o10 l10 b11 k1 k2=>?_
 have hs7:s7.o=some h.length:=e7
 have hs10:=k1 _ hs7
 have x11:Ext h h11:=x8.but_ b11 fun i e=>by rw [hs7] at e;have:=Option.some.inj e;omega
 have n11:=b11.1
 refine zj (by rfl) fun s12 h13 o12 l12 e12 y13=>?_
 have x13:Ext h11 h13:=by rw [y13];exact Ext.app _ _
 have n13:h13.length=h11.length+1:=by rw [y13];simp
 have x113:=x11.trans x13
 refine (o.ext x113).cutV hp (by omega) (by omega) (by omega) ?_
 rw [show (0:Int).toNat=0 from rfl,show ((q:Int)-0).toNat=q by omega]
 have v14:=(o.ext x113).viewT hp (lo:=0) (n:=q) (by omega)
 rw [List.drop_zero] at v14
 refine yk (by omega) o12 v14 (by rw [l12];show ((0+q:Nat):Int)≤lim;unfold lim;omega) fun s15 h16 o15 l15 b16 k3 k4=>?_
 have hs15:=k3 _ e12
 have o10':Ow h16 s10 4 (tc x++tcs (A.drop q)):=(o10.ext x13).but b16 (.inl (by rw [e12,hs10];intro e;have:=Option.some.inj e;omega))
 have hl10:s10.len=1+(A.length-q):=by rw [l10,l7]
 have hl15:s15.len=0+q:=by rw [l15,l12]
 refine yk (by omega) o15 o10'.rd (by rw [hl15,hl10];unfold lim;omega) fun s17 h18 o17 l17 b18 k5 k6=>?_
 have hs17:=k5 _ hs15
 refine hk s17 h18 ?_ (fun i e=>by rw [hs17] at e;have:=Option.some.inj e;omega) (by rw [hs17];rfl) ((x113.but_ b16 fun i e=>by rw [e12] at e;have:=Option.some.inj e;omega).but_ b18 fun i e=>by rw [hs15] at e;have:=Option.some.inj e;omega)
 rw [Ya,xA]
 simpa using o17
theorem zrg (r:Rd h0 s 4 (tcs l)) (hl:l.length≤1000000):
  callS SP zry [.sl s] h0 fun u h'=>Ow h' u 4 (tcs (dsT l))∧Fr h0.length u∧Ext h0 h':=by
 have hsl:=r.tlen
 apply zwp
 unfold WD
 refine zj (by rfl) fun u h1 ou lu uo e1=>?_
 have x1:Ext h0 h1:=by rw [e1];exact Ext.app _ _
 refine znT _ _ _ (fun u i h=>∃(z:Nat) (A:List Tile),i=z∧z≤l.length∧Ow h u 4 (tcs A)∧Fr h0.length u∧u.o.isSome=true∧Ext h0 h∧A.Pairwise ltT∧(∀x,x∈A↔x∈l.take z)∧A.length≤z) (fun _ i _=>(l.length-i).toNat) ?_ _ _
  ⟨0,[],rfl,by omega,by simpa [tcs] using ou,fun o e=>by rw [uo] at e;cases e;exact Nat.le_refl _,by rw [uo];rfl,x1,List.Pairwise.nil,fun x=>by simp,Nat.le_refl _⟩
 rintro X0 u _ h ⟨z,A,rfl,hz,ou,fu,so,x,hp,hm,hAl⟩ hX
 unfold zjQ zws
 refine zc (fun hi=>?_) (fun hi=>?_)
 rotate_left
 ·rw [show z=l.length by omega,List.take_length] at hm
  exact ⟨u,rfl,by rw [show dsT l=A from (zmN ltT_sto hp hm).symm];exact ou,fu,x⟩
 have hz':z<l.length:=by omega
 have hul:=ou.rd.tlen
 have tz:tat l (z:Int)=l[z]:=Xz (by rw [Int.toNat_natCast,List.getElem?_eq_getElem hz'])
 have hst:((z:Int)+1)=((z+1:Nat):Int):=by push_cast;rfl
 have hxl:=x.len
 have memz:∀y,y∈l.take (z+1)↔y∈l.take z∨y=l[z]:=fun y=>by rw [List.take_succ_eq_append_getElem hz',List.mem_append,List.mem_singleton]
 refine znS _ _ X0 _ _ _ (fun j g=>∃q:Nat,j=q∧q≤A.length∧Ext h g∧∀k (hk:k<A.length),q≤k→ltT l[z] A[k]) (fun j _=>j.toNat) ?_ _ ⟨A.length,by rw [hul],Nat.le_refl _,Ext.refl _,fun k hk h=>by omega⟩
 rintro X2 _ g ⟨q,rfl,hq,xg,hgt⟩ hY
 have rl:=r.ext (x.trans xg)
 have og:=ou.ext xg
 have fin:∀{g':H},Ext h g'→(∀(h:0<q),ltT (A[q-1]'(by omega)) l[z])→newS 1 4 (tc l[z]) g' (fun s7 h8=>cut u 4 (q:Int) (u.len:Int) h8 fun s9=>okS g' u∧(app s7 s9 4 h8 fun s10 h11=>newS 0 4 [] h11 fun s12 h13=>cut u 4 0 (q:Int) h13 fun s14=>app s12 s14 4 h13 fun s15 h16=>app s15 s10 4 h16 fun s17 h18=>X0 (YA s s17 (w64 ((z:Int)+1))) h18)):=fun {g'} xg' hlt=>by
  rw [zf (n:=(z:Int)+1) (by omega) (by omega)]
  refine zBI (ou.ext xg') fu (by have:=xg'.len;omega) so hq (by omega) fun v h' ov fv sv xv=>?_
  refine hX _ _ _ ⟨z+1,_,hst,hz',ov,fv,sv,(x.trans xg').trans xv,zLX hp hq hgt hlt,fun y=>?_,by rw [List.length_append,List.length_take,List.length_cons,List.length_drop];omega⟩ (by omega)
  rw [memz,←hm,List.mem_append,List.mem_cons]
  have:y∈A↔y∈A.take q∨y∈A.drop q:=by rw [←List.mem_append,List.take_append_drop]
  rw [this]
  constructor
  ·rintro (h | h | h)
   ·exact .inl (.inl h)
   ·exact .inr h
   ·exact .inl (.inr h)
  ·rintro ((h | h) | h)
   ·exact .inl h
   ·exact .inr (.inr h)
   ·exact .inr (.inl h)
 unfold zjP
 refine zc (fun hj=>?_) (fun hj=>?_)
 ·have hqA:q-1<A.length:=by omega
  have tq:tat A ((q-1:Nat):Int)=A[q-1]:=Xz (by rw [Int.toNat_natCast,List.getElem?_eq_getElem hqA])
  refine rl.tileG (by omega) (by omega) ?_
  rw [zf (n:=(q:Int)-1) (by omega) (by omega),show (q:Int)-1=((q-1:Nat):Int) by omega]
  refine og.rd.tileG (by omega) (by omega) ?_
  rw [tz,tq]
  refine (X7 l[z] A[q-1] g).to ?_
  rintro b g2 ⟨rfl,y2⟩
  have xg2:=xg.trans y2
  refine zc (fun hb=>?_) (fun hb=>?_)
  ·refine hY _ _ ⟨q-1,rfl,by omega,xg2,fun k hk h=>?_⟩ (by omega)
   by_cases e:k=q-1
   ·subst e;exact hb
   ·exact hgt k hk (by omega)
  ·unfold zfU
   refine zc (fun _=>?_) (fun h=>absurd hj h)
   rw [zf (n:=(q:Int)-1) (by omega) (by omega),show (q:Int)-1=((q-1:Nat):Int) by omega]
   refine (ou.ext xg2).rd.tileG (by omega) (by omega) ?_
   refine (r.ext (x.trans xg2)).tileG (by omega) (by omega) (zAs ?_)
   rw [tz,tq]
   refine zc (fun he=>?_) (fun he=>?_)
   ·unfold zfV
    rw [zf (n:=(z:Int)+1) (by omega) (by omega)]
    refine hX _ _ _ ⟨z+1,A,hst,hz',ou.ext xg2,fu,so,x.trans xg2,hp,fun y=>?_,by omega⟩ (by omega)
    rw [memz,←hm]
    exact ⟨.inl,fun h=>h.elim id fun h=>by rw [h,←he];exact List.getElem_mem hqA⟩
   ·refine (r.ext (x.trans xg2)).tileG (by omega) (by omega) ⟨rfl,?_⟩
    rw [tz]
    refine fin xg2 fun _=>?_
    exact (ltT_sto.tri _ _ he).resolve_right hb
 ·unfold zfU
  refine zc (fun h=>absurd h hj) (fun _=>?_)
  refine rl.tileG (by omega) (by omega) ⟨rfl,?_⟩
  rw [tz]
  exact fin xg fun h=>by omega
theorem XZ (r:Rd h0 s 4 (tcs l)) (hl:l.length≤1000000) (c:Int):
  callA SP zbu [i64 c,.sl s] h0 fun cs h'=>∃u,cs=SetC c u∧Ow h' u 4 (tcs (dsT l))∧Fr h0.length u∧Ext h0 h':=by
 apply zxH
 unfold Va
 refine zo fun h1 o1 x1 n1=>?_
 refine (zrg (r.ext x1) hl).to ?_
 rintro u h2 ⟨ou,fu,x2⟩
 refine (o1.ext x2).stA fun h3 o3 b3 n3=>?_
 refine o3.ldA rfl ⟨_,rfl,u,rfl,ou.but b3 (.inl fun e=>by have:=fu _ e.symm;omega),fu.le (by omega),(x1.trans x2).but_ b3 (zi (Nat.le_refl _))⟩
end
end Go.Proofs.YtlcgclmobfdbcaaGreat.Cl
set_option linter.unusedVariables false
set_option linter.unusedSimpArgs false
namespace Go.Proofs.YtlcgclmobfdbcaaGreat.Cl
open Go
section
variable {h:H} {o:Nat}
theorem names_c:callS SP zlR [] h fun u h'=>∃L,RdT h' u L∧L.length=8∧Fr h.length u∧Ext h h':=by
 apply zxS
 unfold Vh
 refine zj (by rfl) fun u h1 ou lu uo e1=>?_
 refine ⟨u,rfl,[_,_,_,_,_,_,_,_],⟨ou.rd,?_⟩,rfl,fun o e=>(by rw [uo] at e;cases e;exact Nat.le_refl _),by rw [e1];exact Ext.app _ _⟩
 decide
theorem zIv (t:ByteArray):callV SP zrK [.str t] h (RdR h):=by
 apply zxQ
 unfold Vf
 refine zo fun h1 o1 x1 n1=>?_
 refine names_c.to ?_
 rintro u h2 ⟨L,rL,hL,fu,x2⟩
 refine zj (by rfl) fun v h3 ov lv vo e3=>?_
 have x3:Ext h2 h3:=by rw [e3];exact Ext.app _ _
 have X3:=x1.trans (x2.trans x3)
 obtain ⟨M,rM,hM⟩:∃M,RdT h3 v M∧M.length=8:=⟨[_,_,_,_,_,_,_,_],⟨ov.rd,by decide⟩,rfl⟩
 have rL3:=rL.ext x3
 have hul:=rL3.len
 have p1:=o1.ext (x2.trans x3)
 refine zor _ _ _ _ _ _ (fun i g=>∃k:Nat,i=k∧k≤8∧g=h3) (fun i _=>(8-i).toNat) ?_ _ ⟨0,rfl,by omega,rfl⟩
 rintro X _ _ ⟨k,rfl,hk,rfl⟩ hX
 unfold zki
 refine zc (fun hi=>?_) (fun _=>RdR.no p1 rfl (Nat.le_refl _) X3)
 refine rL3.ld (by omega) (by omega) fun x _=>?_
 refine ⟨x,rfl,t,rfl,?_⟩
 refine yy (fun _=>?_) (fun _=>?_)
 ·refine rM.ld (by omega) (by omega) fun y hy=>?_
  refine (zLJ y hy).to ?_
  rintro _ h4 ⟨w,c,ts,f,rfl,rw',hw,fw,x4⟩
  refine ⟨_,rfl,_,rfl,_,rfl,_,rfl,?_⟩
  refine zo fun h5 o5 x5 n5=>?_
  refine o5.stA fun h6 o6 b6 n6=>?_
  have x46:Ext h4 h6:=x5.but_ b6 (zi (Nat.le_refl _))
  refine o6.ldA rfl ?_
  have hx3:=X3.len
  refine (p1.ext (x4.trans x46)).stA fun h7 o7 b7 n7=>?_
  refine o7.ldA rfl ⟨w,c,ts,true,rfl,(rw'.ext x46).but b7 (.inl fun e=>by have:=fw _ e.symm;have:=x1.len;have:=x2.len;have:=x3.len;omega),hw,fw.le (by omega),((X3.trans x4).trans x46).but_ b7 (zi (Nat.le_refl _))⟩
 ·rw [zf (by omega) (by omega)]
  exact hX _ _ ⟨k+1,by push_cast;rfl,by omega,rfl⟩ (by omega)
theorem zqE {u v:Sl} {c:Int} {ts:List Tile} {l:List Int} (r:Rd h u 4 (tcs ts)) (hw:WSet c ts) (rv:Rd h v 1 (ic l)) (hl:(l.length:Int)=c) (hb:∀x∈l,0≤x∧x<c):
  callA SP zrJ [.agg (SetC c u),.sl v] h fun cs h'=>∃w ts',cs=SetC c w∧Rd h' w 4 (tcs ts')∧WSet c ts'∧Fr h.length w∧Ext h h':=by
 have hul:=r.tlen
 have hvl:=rv.ilen
 have h16:=hw.len
 apply zxM
 unfold Vd
 refine zk fun h1 o1 x1 n1=>?_
 refine zo fun h2 o2 x2 n2=>?_
 refine zj (by rfl) fun w h3 ow lw wo e3=>?_
 have x3:Ext h2 h3:=by rw [e3];exact Ext.app _ _
 have X3:=x1.trans (x2.trans x3)
 refine zop _ _ _ _ _ (fun w i g=>∃(k:Nat) (A:List Tile),i=k∧k≤ts.length∧A.length=k∧(∀t∈A,∀j,j<4→0≤sd t j∧sd t j<c)∧Ow g w 4 (tcs A)∧Fr h2.length w∧Ext h2 g) (fun _ i _=>((ts.length:Int)-i).toNat) ?_ _ _
  ⟨0,[],rfl,by omega,rfl,fun t ht=>(by cases ht),by simpa [tcs] using ow,fun o e=>(by rw [wo] at e;cases e;exact Nat.le_refl _),x3⟩
 rintro X w _ g ⟨k,A,rfl,hk,hA,hAb,ow,fw,x⟩ hX
 have Xg:=x1.trans (x2.trans x)
 have p1:=o1.ext (x2.trans x)
 have hgl:=x.len
 unfold zkh
 refine zh (p1.ldS rfl rfl ?_)
 refine zc (fun hi=>?_) (fun hi=>?_)
 ·have hkl:k<ts.length:=by omega
  have hs:setOK c ts:=by
   rcases hw with h | h
   ·exact h
   ·rw [h.2] at hkl;simp at hkl
  have hT:=fun j hj=>hs.ts.2 ts[k] (List.getElem_mem hkl) j hj
  refine zh (p1.ldS rfl rfl ?_)
  refine (r.ext Xg).tileG (by omega) (by omega) ?_
  rw [xm hkl]
  refine zo fun g1 q1 y1 m1=>?_
  refine q1.stA fun g2 q2 b2 m2=>?_
  have y2:Ext g g2:=y1.but_ b2 (zi (Nat.le_refl _))
  have rvg:=rv.ext (Xg.trans y2)
  have ld:∀(j:Nat) (hj:j<4) {K:Int→Prop},(∀x,x∈l→K x)→ixS v 1 (sd ts[k] j) fun p=>Cl.ldI .i64 p g2 K:=fun j hj K hK=>by
   have:=hT j hj
   exact rvg.ldI this.1 (by omega) fun x hx=>hK x (List.mem_of_getElem? hx)
  refine ix4 q2 0 (by omega) fun p7 _=>?_
  refine ld 0 (by omega) fun a ha=>?_
  refine ix4 q2 1 (by omega) fun p11 _=>?_
  refine ld 1 (by omega) fun b hb'=>?_
  refine ix4 q2 2 (by omega) fun p15 _=>?_
  refine ld 2 (by omega) fun d hd=>?_
  refine ix4 q2 3 (by omega) fun p19 _=>?_
  refine ld 3 (by omega) fun e he=>⟨rfl,?_⟩
  have hwl:=ow.rd.tlen
  refine XH (t:=(a,b,d,e)) (ow.ext y2) (by unfold lim;omega) fun w' g3 ow3 b3 hw3 l3=>?_
  rw [zf (by omega) (by omega)]
  have hy2:=y2.len
  refine hX _ _ _ ⟨k+1,A++[(a,b,d,e)],by push_cast;rfl,by omega,by simp [hA],fun t ht j hj=>?_,ow3,fw.push (h:=g2) (by omega) hw3,(x.trans y2).but_ b3 fun o e=>fw o e⟩ (by omega)
  rcases List.mem_append.1 ht with ht | ht
  ·exact hAb t ht j hj
  ·rw [List.mem_singleton] at ht
   subst ht
   have hj':j=0∨j=1∨j=2∨j=3:=by omega
   rcases hj' with rfl | rfl | rfl | rfl
   ·exact hb a ha
   ·exact hb b hb'
   ·exact hb d hd
   ·exact hb e he
 ·have hkU:k=ts.length:=by omega
  unfold zxO
  refine zh (p1.ldI rfl rfl ?_)
  have hdl:=Qv A
  refine (XZ (l:=A) ow.rd (by omega) c).to ?_
  rintro _ g1 ⟨z,rfl,oz,fz,y1⟩
  have hwset:WSet c (dsT A):=by
   rcases hw with hs | hs
   ·exact .inl (Xh hs.1.1 hs.1.2 (by omega) (qm ltT_sto _) fun t ht=>hAb t (mem_dsort.1 ht))
   ·have:A=[]:=List.length_eq_zero_iff.1 (by rw [hA,hkU,hs.2];rfl)
    subst this
    exact .inr ⟨hs.1,rfl⟩
  have hx1:=x1.len
  have hXg:=Xg.len
  refine ((o2.ext x).ext y1).stA fun g2 q2 b2 m2=>?_
  refine q2.ldA rfl ⟨_,rfl,z,dsT A,rfl,(oz.rd).but b2 (.inl fun e=>by have:=fz _ e.symm;omega),hwset,fz.le (by omega),(Xg.trans y1).but_ b2 (zi (by omega))⟩
end
end Go.Proofs.YtlcgclmobfdbcaaGreat.Cl
set_option linter.unusedVariables false
set_option linter.unusedSimpArgs false
namespace Go.Proofs.YtlcgclmobfdbcaaGreat.Cl
open Go
section
variable {h:H} {o:Nat}
theorem Ow.okS {s:Sl} {z:Nat} {cs:List AVal} (r:Ow h s z cs):Cl.okS h s:=by
 unfold Cl.okS
 obtain ⟨a,_⟩ | ⟨i,a,_,_,d,e⟩:=r.at_
 ·rw [a];trivial
 ·rw [a];unfold cells;simp [e,d,r.len]
theorem Ow.cutZ {s:Sl} {z:Nat} {cs:List AVal} (r:Ow h s z cs) {p:Nat} (hp:s.o=some p) {lo hi:Int} (h0:0≤lo) (h1:lo≤hi) (h2:hi≤s.len) {K:Sl→Prop}
  (hk:∀s',s'.o=some p→s'.len=(hi-lo).toNat→(∀g,Ow g s z cs→Rd g s' z ((cs.drop (lo.toNat*z)).take ((hi-lo).toNat*z)))→K s'):cut s z lo hi h K:=by
 have hok:=r.okS
 obtain ⟨a,_⟩ | ⟨i,a,b,c,d,e⟩:=r.at_
 ·rw [hp] at a;cases a
 have hm:hi.toNat*z≤s.len*z:=Nat.mul_le_mul_right _ (by omega)
 refine ⟨⟨h0,h1⟩,hok,(fun hn=>by rw [hp] at hn;cases hn),fun _=>⟨b,by rw [c,d];omega⟩,hk _ hp rfl fun g rg=>?_⟩
 have hlm:(hi-lo).toNat*z+lo.toNat*z=hi.toNat*z:=by rw [←Nat.add_mul];congr 1;omega
 have hlen:=rg.len
 refine ⟨?_,?_⟩
 ·show _=(hi-lo).toNat*z
  simp only [List.length_take,List.length_drop]
  omega
 ·refine .inr ⟨rfl,by show s.o.isSome=true;rw [hp];rfl,?_⟩
  obtain ⟨a',_⟩ | ⟨j,a',b',c',d',e'⟩:=rg.at_
  ·rw [hp] at a';cases a'
  have hc:cells g j s.n=some cs:=by unfold cells;rw [e'];simp only;rw [if_pos (by rw [rg.len,d'])]
  show range g s.o s.n (s.off+lo.toNat*z) ((hi-lo).toNat*z)=_
  rw [a',yX hc (by rw [hlen,c'];omega),c',Nat.zero_add]
theorem zLS {x:Sl} {l:List Int} (r:Rd h x 1 (ic l)) (hl:l.length≤1048576):callS SP zhl [.sl x] h fun s h'=>Ow h' s 1 (ic l)∧Fr h.length s∧Ext h h':=by
 have hx:=r.ilen
 apply zio
 unfold Z1
 refine zj (by rfl) fun s h1 os ls so he=>?_
 have e1:Ext h h1:=he▸Ext.app _ _
 refine yk (by omega) os (r.ext e1) (by rw [ls,hx];unfold lim;omega) fun s' h' o' l' b' k1 _=>?_
 have:=k1 _ so
 exact ⟨s',rfl,by simpa using o',fun i e=>by rw [this] at e;cases e;exact Nat.le_refl _,e1.but_ b' (by rw [so];exact zi (Nat.le_refl _))⟩
theorem Ow.someO {s:Sl} {z:Nat} {cs:List AVal} (r:Ow h s z cs) (hl:0<s.len):∃p,s.o=Option.some p:=by
 obtain ⟨_,b⟩ | ⟨i,a,_⟩:=r.at_
 ·omega
 ·exact ⟨i,a⟩
theorem zkX (r:Src h o) (n:Int) (h0:0≤n) (h6:n≤1000):callS SP zrI [.ptr ⟨some o,3,0⟩,i64 n] h fun u h'=>∃l,Ow h' u 1 (ic l)∧(l.length:Int)=n∧(∀x∈l,0≤x∧x<n)∧Fr h.length u∧Src h' o∧Chg (fun i=>i=o) h h':=by
 have hlt:=r.lt
 apply zxJ
 unfold Vb
 refine zj (by rfl) fun u h1 ou lu uo e1=>?_
 have x1:Ext h h1:=by rw [e1];exact Ext.app _ _
 refine zon _ _ _ _ (fun u i g=>∃(k:Nat) (l:List Int),i=k∧(k:Int)≤n∧Ow g u 1 (ic l)∧u.o.isSome=true∧l.length=k∧(∀x∈l,0≤x∧x<n)∧Fr h.length u∧Src g o∧Chg (fun i=>i=o∨h.length≤i) h g) (fun _ i _=>(n-i).toNat) ?_ _ _
  ⟨0,[],rfl,h0,ou,by rw [uo];rfl,rfl,fun x hx=>(by cases hx),fun i e=>(by rw [uo] at e;cases e;exact Nat.le_refl _),r.ext x1,x1.chg _⟩
 rintro X u _ g ⟨k,l,rfl,hk,ou,su,hl,hb,fu,rg,ch⟩ hX
 have hgl:=ch.1
 unfold zkg
 refine zc (fun hi=>?_) (fun hi=>⟨u,rfl,l,ou,by omega,hb,fu,rg,ch.to fun i hi e=>by omega⟩)
 obtain ⟨p,hp⟩:=Option.isSome_iff_exists.1 su
 have hpf:=fu p hp
 have hpl:=ou.lt hp
 rw [zf (n:=(k:Int)+1) (by omega) (by omega)]
 refine (zH rg _).to ?_
 rintro x g1 ⟨hx,r1,b1,l1⟩
 have hx2:=hx.2.1 (by omega)
 have hx1:=hx.1
 have ou1:=ou.but b1 (.inl fun e=>by rw [hp] at e;have:=Option.some.inj e;omega)
 refine qf fun g2 y2 m2=>?_
 have ou2:=ou1.ext y2
 have hul:=ou2.rd.ilen
 refine ou2.cutZ hp (Int.le_refl 0) hx.1 (by omega) fun s3 s3o s3l v3=>?_
 have rv3:=v3 g2 ou2
 have e3:(((ic l).drop ((0:Int).toNat*1)).take ((x-0).toNat*1))=ic (l.take x.toNat):=by
  unfold ic
  rw [show (0:Int).toNat*1=0 by rfl,List.drop_zero,←List.map_take,Nat.mul_one,show (x-0).toNat=x.toNat by omega]
 rw [e3] at rv3
 refine (zLS rv3 (by rw [List.length_take];omega)).to ?_
 rintro s5 g4 ⟨o5,f5,y4⟩
 have ou4:=ou2.ext y4
 refine ou4.cutZ hp hx.1 (by omega) (Int.le_refl _) fun s6 s6o s6l v6=>?_
 refine ⟨ou2.okS,?_⟩
 have hy4:=y4.len
 refine wH (by omega) (by rfl) fun s7 g8 o7 l7 s7o b8 m8=>?_
 have ou8:=ou4.but b8 (.inl fun e=>by rw [hp] at e;have:=Option.some.inj e;omega)
 refine ⟨ou4.okS,ou8.okS,ou8.okS,?_⟩
 have o58:=o5.but b8 (by
  cases hq:s5.o with
  | none=>exact .inl (by simp)
  | some q=>exact .inl fun e=>by have:=f5 q hq;have:=Option.some.inj e;omega)
 have h5l:=o58.rd.ilen
 rw [List.length_take] at h5l
 refine yk (by omega) o58 o7.rd (by rw [h5l,l7];unfold lim;omega) fun s9 g10 o9 l9 b10 k9 k9'=>?_
 have hs9:∀q,s9.o=some q→g2.length≤q:=fun q e=>by
  cases hq:s5.o with
  | none=>have:=k9' hq q e;omega
  | some q'=>rw [k9 q' hq] at e;have:=f5 q' hq;have:=Option.some.inj e;omega
 have hs5:∀i,s5.o=some i→g2.length≤i:=f5
 have ou10:=ou8.but b10 (by
  cases hq:s5.o with
  | none=>exact .inr rfl
  | some q=>exact .inl fun e=>by have:=f5 q hq;rw [hp] at e;have:=Option.some.inj e;omega)
 refine ⟨ou10.okS,?_⟩
 have rv6:=v6 g10 ou10
 have e6:(((ic l).drop (x.toNat*1)).take (((u.len:Int)-x).toNat*1))=ic (l.drop x.toNat):=by
  unfold ic
  rw [Nat.mul_one,Nat.mul_one,←List.map_drop,←List.map_take,List.take_of_length_le (by rw [List.length_drop];omega)]
 rw [e6] at rv6
 have h10:s9.len=min x.toNat l.length+1:=by rw [l9,h5l,l7]
 refine yk (by omega) o9 rv6 (by rw [h10,s6l];unfold lim;omega) fun s11 g12 o11 l11 b12 k11 k11'=>?_
 have hs11:∀q,s11.o=some q→g2.length≤q:=fun q e=>by
  cases hq:s9.o with
  | none=>have:=k11' hq q e;have:=b10.1;omega
  | some q'=>rw [k11 q' hq] at e;have:=hs9 q' hq;have:=Option.some.inj e;omega
 have hl11:ic (l.take x.toNat)++[i64 (k:Int)]++ic (l.drop x.toNat)=ic (l.take x.toNat++[(k:Int)]++l.drop x.toNat):=by rw [qS,qS];rfl
 have o11':Ow g12 s11 1 (ic (l.take x.toNat++[(k:Int)]++l.drop x.toNat)):=by rw [←hl11];exact o11
 obtain ⟨q11,hq11⟩:=o11.someO (by rw [l11,h10];omega)
 have c2:Chg (fun i=>i=o∨h.length≤i) g g12:=((((b1.chg fun i e=> .inl (Option.some.inj e).symm).trans (y2.chg _)).trans (y4.chg _)).trans (b8.chg fun i e=> .inr (by have:=Option.some.inj e;omega))).trans ((b10.chg fun i e=> .inr (by have:=hs5 i e;omega)).trans (b12.chg fun i e=> .inr (by have:=hs9 i e;omega)))
 have r12:Src g12 o:=(((r1.ext y2).ext y4).but b8 (fun i e=>by have:=Option.some.inj e;omega)).but b10 (fun i e=>by have:=hs5 i e;omega) |>.but b12 (fun i e=>by have:=hs9 i e;omega)
 refine hX _ _ _ ⟨k+1,_,by push_cast;rfl,by omega,o11',by rw [hq11];rfl,?_,fun y hy=>?_,fun i e=>by have:=hs11 i e;omega,r12,ch.trans c2⟩ (by omega)
 ·simp only [List.length_append,List.length_take,List.length_drop,List.length_singleton]
  omega
 ·rw [List.mem_append,List.mem_append,List.mem_singleton] at hy
  rcases hy with (hy | hy) | hy
  ·exact hb y (List.mem_of_mem_take hy)
  ·subst hy;omega
  ·exact hb y (List.mem_of_mem_drop hy)
def DrS (h:H) (o:Nat) (cs:List AVal) (h':H):Prop:=∃u c ts,cs=SetC c u∧Rd h' u 4 (tcs ts)∧WSet c ts∧Fr h.length u∧Src h' o∧Chg (fun i=>i=o) h h'
theorem Xt (r:Src h o) (c n:Int) (hc:1≤c∧c≤6) (hn:n≤16):callA SP YX [.ptr ⟨some o,3,0⟩,i64 c,i64 n] h fun cs h'=>∃u ts,cs=SetC c u∧Rd h' u 4 (tcs ts)∧setOK c ts∧(ts.length:Int)≤max n 0∧Fr h.length u∧Src h' o∧Chg (fun i=>i=o) h h':=by
 have hlt:=r.lt
 apply zyi
 unfold Vp
 refine zo fun h1 o1 x1 n1=>?_
 refine zj (by rfl) fun u h2 ou lu uo e2=>?_
 have x2:Ext h1 h2:=by rw [e2];exact Ext.app _ _
 have X2:=x1.trans x2
 refine zoz _ _ _ _ _ (fun u i g=>∃A:List Tile,i≤n∧(A.length:Int)+(max i 0)=max n 0∧Ow g u 4 (tcs A)∧(∀t∈A,DT c t)∧Fr h1.length u∧Src g o∧Chg (fun i=>i=o∨h1.length≤i) h2 g) (fun _ i _=>i.toNat) ?_ _ _
  ⟨[],Int.le_refl _,by simp,by simpa [tcs] using ou,fun t ht=>(by cases ht),fun i e=>(by rw [uo] at e;cases e;exact Nat.le_refl _),r.ext X2,Chg.refl _ _⟩
 rintro X u i g ⟨A,hi,hA,ou,hD,fu,rg,ch⟩ hX
 have hch:=ch.1
 have hx2:=x2.len
 unfold zkm
 refine zc (fun h0=>?_) (fun h0=>?_)
 ·refine (zbX rg c).to ?_
  rintro _ g1 ⟨t,rfl,ht,r1,c1⟩
  refine ⟨rfl,?_⟩
  have hg1:=c1.1
  have hul:=ou.rd.tlen
  refine XH (t:=t) (ou.chg c1 fun i e e2=>by have:=fu i e;omega) (by unfold lim;omega) fun u' g2 ou2 b2 hu2 l2=>?_
  rw [zf (by omega) (by omega)]
  refine hX _ _ _ ⟨A++[t],by omega,by rw [List.length_append,List.length_singleton];omega,ou2,fun y hy=>?_,fu.push (h:=g1) (by omega) hu2,r1.but b2 fun i e=>by have:=fu i e;omega,(ch.trans (c1.to fun i _ e=> .inl e)).trans (b2.chg fun i e=> .inr (fu i e))⟩ (by omega)
  rcases List.mem_append.1 hy with hy | hy
  ·exact hD y hy
  ·rw [List.mem_singleton] at hy;subst hy;exact ht
 ·unfold zyk
  have hdl:=Qv A
  have hAl:A.length≤16:=by omega
  refine (XZ (l:=A) ou.rd (by omega) c).to ?_
  rintro _ g1 ⟨z,rfl,oz,fz,y1⟩
  have hs:setOK c (dsT A):=Xh hc.1 hc.2 (by omega) (qm ltT_sto _) fun t ht j hj=>by
   have:=hD t (mem_dsort.1 ht) j hj
   exact ⟨this.1,this.2.1 hc.1⟩
  have og:=(o1.ext x2).chg ch (by omega)
  have r1:=rg.ext y1
  refine (og.ext y1).stA fun g2 q2 b2 m2=>?_
  refine q2.ldA rfl ⟨_,rfl,z,dsT A,rfl,(oz.rd).but b2 (.inl fun e=>by have:=fz _ e.symm;omega),hs,by omega,fz.le (by omega),r1.but b2 fun i e=>by have:=Option.some.inj e;omega,?_⟩
  exact ((((X2.chg (fun i=>i=o∨h.length≤i)).trans (ch.to fun i _ e=>by omega)).trans (y1.chg _)).trans (b2.chg fun i e=> .inr (by have:=Option.some.inj e;omega))).to fun i hi e=>by omega
end
end Go.Proofs.YtlcgclmobfdbcaaGreat.Cl
set_option linter.unusedVariables false
set_option linter.unusedSimpArgs false
namespace Go.Proofs.YtlcgclmobfdbcaaGreat.Cl
open Go
section
variable {h:H} {o:Nat}
theorem Yh {g:H} {p n:Nat} {l:List AVal} {u:Sl} {c:Int} {ts:List Tile} (P:Obj g p l) (hl:l.length=2) (hp:h.length≤p) (hop:o<h.length) (r:Rd g u 4 (tcs ts)) (f:Fr n u) (hn:u.o≠some p) (s:Src g o) (ch:Chg (fun i=>i=o∨h.length≤i) h g)
  {Q:List AVal→H→Prop} (hk:∀h',Rd h' u 4 (tcs ts)→Src h' o→Chg (fun i=>i=o) h h'→Q (SetC c u) h'):stN ⟨some p,2,0⟩ 2 (SetC c u) g fun h6=>ldA ⟨some p,2,0⟩ 2 h6 fun cs=>Q cs h6:=by
 refine P.stA (fun h6 o6 b6 n6=>?_) hl
 refine o6.ldA rfl (hk h6 (r.but b6 (.inl fun e=>hn e.symm)) (s.but b6 fun i e=>by have:=Option.some.inj e;omega) ?_)
 exact (ch.trans (b6.chg fun i e=> .inr (by have:=Option.some.inj e;omega))).to fun i hi e=>by omega
theorem zq {i o:Nat} (h:i≠o):some i≠some o:=fun e=>h (Option.some.inj e)
theorem Src.self {h':H} {n:Nat} (r:Src h o) (b:But (some o) h h'):Chg (fun i=>i=o∨n≤i) h h':=b.chg fun i e=> .inl (Option.some.inj e).symm
theorem ziR (r:Src h o):callA SP Wh [.ptr ⟨some o,3,0⟩] h fun cs h'=>DrS h o cs h':=by
 have hlt:=r.lt
 apply zAg
 unfold Qm
 refine zo fun h1 o1 x1 n1=>?_
 have r1:=r.ext x1
 refine (zH r1 3).to ?_
 rintro a h2 ⟨ha,r2,b2,l2⟩
 have c2:Chg (fun i=>i=o∨h.length≤i) h h2:=(x1.chg _).trans (r1.self b2)
 have o2:=o1.but b2 (zq (by omega))
 refine zp (fun _=>?_) (fun _=>?_)
 ·refine names_c.to ?_
  rintro u h3 ⟨L,rL,hL,fu,x3⟩
  have hul:=rL.len
  have r3:=r2.ext x3
  have hx3:=x3.len
  refine (zH r3 _).to ?_
  rintro b h4 ⟨hb,r4,b4,l4⟩
  have hb2:=hb.2.1 (by omega)
  have rL4:RdT h4 u L:=⟨rL.1.but b4 (by
   cases hq:u.o with
   | none=>exact .inl (by simp)
   | some q=>exact .inl fun e=>by have:=fu q hq;have:=Option.some.inj e;omega),rL.2⟩
  refine rL4.ld hb.1 (by omega) fun t ht=>?_
  refine (zIv t).to ?_
  rintro _ h5 ⟨w,c,ts,f,rfl,rw',hw,fw,x5⟩
  refine ⟨_,rfl,_,rfl,_,rfl,_,rfl,?_⟩
  refine zo fun h6 o6 x6 n6=>?_
  refine o6.stA fun h7 o7 b7 n7=>?_
  have x57:Ext h5 h7:=x6.but_ b7 (zi (Nat.le_refl _))
  have hx5:=x5.len
  have hx57:=x57.len
  refine o7.ldA rfl ?_
  refine zh (o7.ldI rfl rfl ?_)
  have hcol:=hw.col
  have r7:=(r4.ext x5).ext x57
  refine (zkX r7 c hcol.1 (by omega)).to ?_
  rintro v h8 ⟨l,ov,hl,hlb,fv,r8,c8⟩
  have o8:=o7.chg c8 (by omega)
  refine ⟨(o8.rangeE rfl).trans (o7.rangeE rfl).symm,?_⟩
  have hx8:=c8.1
  have rw8:=(rw'.ext x57).chg c8 fun i e=>by have:=fw i e;omega
  refine (zqE rw8 hw ov.rd hl hlb).to ?_
  rintro _ h9 ⟨z,ts',rfl,rz,hz,fz,x9⟩
  have C:=((((((c2.trans (x3.chg _)).trans (r3.self b4)).trans (x5.chg _)).trans (x57.chg _)).trans (c8.to fun i _ e=> .inl e))).trans (x9.chg _)
  have o9:=((((o2.ext x3).but b4 (zq (by omega))).ext (x5.trans x57)).chg c8 (by omega)).ext x9
  exact Yh o9 rfl (Nat.le_refl _) hlt rz (fz.le (n:=h8.length) (m:=h.length) (by omega)) (fun e=>by have:=fz _ e;omega) (r8.ext x9) C fun h' a b c'=>⟨_,rfl,z,c,ts',rfl,a,hz,fz.le (by omega),b,c'⟩
 ·refine vF r2 (l:=[1,2,2,2,3]) rfl rfl (by simp) fun a h3 ha r3 c3=>?_
  refine vF r3 (l:=[3,6,9]) rfl rfl (by simp) fun b h4 hb r4 c4=>?_
  refine (zH r4 b).to ?_
  rintro n h5 ⟨hn,r5,b5,l5⟩
  have hn':=hn.le
  have ha':1≤a∧a≤3:=by simp at ha;omega
  have hb':3≤b∧b≤9:=by simp at hb;omega
  refine (Xt r5 a n (by omega) (by omega)).to ?_
  rintro _ h6 ⟨u,ts,rfl,ru,hs,_,fu,r6,c6⟩
  have hx3:=c3.1
  have hx4:=c4.1
  have C:=(((c2.trans (c3.to fun i _ e=> .inl e)).trans (c4.to fun i _ e=> .inl e)).trans (r4.self b5)).trans (c6.to fun i _ e=> .inl e)
  have o6:=(((o2.chg c3 (by omega)).chg c4 (by omega)).but b5 (zq (by omega))).chg c6 (by omega)
  exact Yh o6 rfl (Nat.le_refl _) hlt ru fu (fun e=>by have:=fu _ e;omega) r6 C fun h' a' b' c'=>⟨_,rfl,u,a,ts,rfl,a',.inl hs,fu.le (by omega),b',c'⟩
theorem setOK.dsT_app {c:Int} {ts:List Tile} (hs:setOK c ts) {t:Tile} (hl:ts.length≤15) (ht:∀k,k<4→0≤sd t k∧sd t k<c):setOK c (dsT (ts++[t])):=by
 have:=Qv (ts++[t])
 rw [List.length_append,List.length_singleton] at this
 refine Xh hs.1.1 hs.1.2 (by omega) (qm ltT_sto _) fun x hx j hj=>?_
 rcases List.mem_append.1 (mem_dsort.1 hx) with h1 | h1
 ·exact hs.ts.2 x h1 j hj
 ·rw [List.mem_singleton] at h1;subst h1;exact ht j hj
theorem zHS (r:Src h o):callA SP zlU [.ptr ⟨some o,3,0⟩] h fun cs h'=>DrS h o cs h':=by
 have hlt:=r.lt
 apply zAf
 unfold Ql
 refine zo fun h1 o1 x1 n1=>?_
 have r1:=r.ext x1
 refine (zH r1 4).to ?_
 rintro a h2 ⟨ha,r2,b2,l2⟩
 have c2:Chg (fun i=>i=o∨h.length≤i) h h2:=(x1.chg _).trans (r1.self b2)
 have o2:=o1.but b2 (zq (by omega))
 have fin:∀{g:H} {cs:List AVal},DrS h2 o cs g→∃u c,cs=SetC c u∧stN ⟨some h.length,2,0⟩ 2 (SetC c u) g fun h6=>ldA ⟨some h.length,2,0⟩ 2 h6 fun cs=>∃cs',AVal.agg cs=AVal.agg cs'∧DrS h o cs' h6:=by
  rintro g cs ⟨u,c,ts,rfl,ru,hw,fu,rg,cg⟩
  refine ⟨u,c,rfl,?_⟩
  exact Yh (o2.chg cg (by omega)) rfl (Nat.le_refl _) hlt ru fu (fun e=>by have:=fu _ e;omega) rg (c2.trans (cg.to fun i _ e=> .inl e)) fun h' a' b' c'=>⟨_,rfl,u,c,ts,rfl,a',hw,fu.le (by omega),b',c'⟩
 have sml:callA SP Wh [.ptr ⟨some o,3,0⟩] h2 fun cs5 h4=>stN ⟨some h.length,2,0⟩ 2 cs5 h4 fun h6=>ldA ⟨some h.length,2,0⟩ 2 h6 fun cs=>∃cs',AVal.agg cs=AVal.agg cs'∧DrS h o cs' h6:=by
  refine (ziR r2).to ?_
  rintro cs g d
  obtain ⟨u,c,rfl,hk⟩:=fin d
  exact hk
 refine zp (fun ea=>?_) (fun na=>?_)
 ·refine zp (fun _=>sml) (fun ne=>absurd ea ne)
 refine zp (fun ea=>sml) (fun na1=>?_)
 refine zp (fun ea=>?_) (fun na2=>?_)
 ·refine vF r2 (l:=[2,3,4]) rfl rfl (by simp) fun c h3 hc r3 c3=>?_
  refine (zH r3 10).to ?_
  rintro n h4 ⟨hn,r4,b4,l4⟩
  have hn':=hn.2.1 (by omega)
  have hn0:=hn.1
  have hc':2≤c∧c≤4:=by simp at hc;omega
  refine (Xt r4 c n (by omega) (by omega)).to ?_
  rintro _ h5 ⟨u,ts,rfl,ru,hs,hsl,fu,r5,c5⟩
  have hul:=ru.tlen
  refine zo fun h6 o6 x6 n6=>?_
  refine o6.stA fun h7 o7 b7 n7=>?_
  have x57:Ext h5 h7:=x6.but_ b7 (zi (Nat.le_refl _))
  have r7:=r5.ext x57
  have hx3:=c3.1
  have hx5:=c5.1
  refine zh (o7.ldI rfl rfl ?_)
  refine (zH r7 c).to ?_
  rintro x h8 ⟨hx,r8,b8,l8⟩
  have o8:=o7.but b8 (zq (by omega))
  refine zh (o8.ldI rfl rfl ?_)
  refine ⟨(o7.cellE rfl).trans (o8.cellE rfl).symm,?_⟩
  refine (zH r8 c).to ?_
  rintro y h9 ⟨hy,r9,b9,l9⟩
  have o9:=o8.but b9 (zq (by omega))
  refine qf fun g1 y1 m1=>?_
  have p1:=o9.ext y1
  refine zh (p1.ldI rfl rfl (zh (p1.ldS rfl rfl ?_)))
  refine wH (by omega) (by rfl) fun s2 g2 q2 ll2 so2 bb2 m2=>?_
  have p2:=p1.but bb2 (zq (by omega))
  refine ⟨(p2.cellE rfl).trans (p1.cellE rfl).symm,(p2.cellE rfl).trans (p1.cellE rfl).symm,?_⟩
  have ru9:=((ru.ext x57).but b8 (.inl fun e=>by have:=fu _ e.symm;omega)).but b9 (.inl fun e=>by have:=fu _ e.symm;omega)
  have ru2:=ru9.ext (y1.but_ bb2 (zi (by omega)))
  refine yk (by omega) q2 ru2 (by rw [ll2,hul];unfold lim;omega) fun s3 g3 q3 ll3 bb3 k3 k3'=>?_
  have so3:=k3 _ so2
  rw [so2] at bb3
  have p3:=p2.but bb3 (zq (by omega))
  refine ⟨(p3.cellE rfl).trans (p1.cellE rfl).symm,rfl,?_⟩
  have hb3:=bb3.1
  refine wH (by omega) (by rfl) fun s4 g4 q4 ll4 so4 bb4 m4=>?_
  have p4:=p3.but bb4 (zq (by omega))
  refine ⟨(p3.cellE rfl).trans (p1.cellE rfl).symm,(p4.cellE rfl).trans (p1.cellE rfl).symm,(p4.cellE rfl).trans (p1.cellE rfl).symm,?_⟩
  have q34:=q3.but bb4 (.inl fun e=>by rw [so3] at e;have:=Option.some.inj e;omega)
  refine yk (by omega) q34 q4.rd (by rw [ll3,ll2,hul,ll4];unfold lim;omega) fun s5 g5 q5 ll5 bb5 k5 k5'=>?_
  have so5:=k5 _ so3
  rw [so3] at bb5
  have p5:=p4.but bb5 (zq (by omega))
  refine ⟨(p5.cellE rfl).trans (p1.cellE rfl).symm,?_⟩
  have e5:([]:List AVal)++tcs ts++spl [.int .i64 0,.int .i64 0,.int .i64 0,.int .i64 0] 0 4 [.int .i64 x,.int .i64 y,.int .i64 x,.int .i64 y]=tcs (ts++[(x,y,x,y)]):=by rw [Ya,zqi];rfl
  have q5':Ow g5 s5 4 (tcs (ts++[(x,y,x,y)])):=by rw [←e5];exact q5
  have hts:ts.length≤15:=by omega
  refine (XZ (l:=ts++[(x,y,x,y)]) q5'.rd (by rw [List.length_append,List.length_singleton];omega) c).to ?_
  rintro _ g6 ⟨z,rfl,oz,fz,y6⟩
  have hxc:=hx.2.1 (by omega)
  have hyc:=hy.2.1 (by omega)
  have hx0:=hx.1
  have hy0:=hy.1
  have hset:setOK c (dsT (ts++[(x,y,x,y)])):=hs.dsT_app hts fun k hk=>by
   have hk':k=0∨k=1∨k=2∨k=3:=by omega
   rcases hk' with rfl | rfl | rfl | rfl
   ·exact ⟨hx0,hxc⟩
   ·exact ⟨hy0,hyc⟩
   ·exact ⟨hx0,hxc⟩
   ·exact ⟨hy0,hyc⟩
  have hb5:=bb5.1
  have C:Chg (fun i=>i=o∨h.length≤i) h g6:=((((((((((c2.trans (c3.to fun i _ e=> .inl e)).trans (r3.self b4)).trans (c5.to fun i _ e=> .inl e)).trans (x57.chg _)).trans (r7.self b8)).trans (r8.self b9)).trans (y1.chg _)).trans (bb2.chg fun i e=> .inr (by have:=Option.some.inj e;omega))).trans (bb3.chg fun i e=> .inr (by have:=Option.some.inj e;omega))).trans ((bb4.chg fun i e=> .inr (by have:=Option.some.inj e;omega)).trans (bb5.chg fun i e=> .inr (by have:=Option.some.inj e;omega)))).trans (y6.chg _)
  have rs:Src g6 o:=(((((r9.ext y1).but bb2 fun i e=>by have:=Option.some.inj e;omega).but bb3 fun i e=>by have:=Option.some.inj e;omega).but bb4 fun i e=>by have:=Option.some.inj e;omega).but bb5 fun i e=>by have:=Option.some.inj e;omega).ext y6
  have oo:=(((((((((((o2.chg c3 (by omega)).but b4 (zq (by omega))).chg c5 (by omega)).ext x57).but b8 (zq (by omega))).but b9 (zq (by omega))).ext y1).but bb2 (zq (by omega))).but bb3 (zq (by omega))).but bb4 (zq (by omega))).but bb5 (zq (by omega))).ext y6
  exact Yh oo rfl (Nat.le_refl _) hlt oz.rd fz (fun e=>by have:=fz _ e;omega) rs C fun h' a' b' c'=>⟨_,rfl,z,c,_,rfl,a',.inl hset,fz.le (by omega),b',c'⟩
 ·refine (zH r2 6).to ?_
  rintro c h3 ⟨hc,r3,b3,l3⟩
  have hc':=hc.2.1 (by omega)
  have hc0:=hc.1
  refine (zH r3 17).to ?_
  rintro n h4 ⟨hn,r4,b4,l4⟩
  have hn':=hn.2.1 (by omega)
  rw [zf (by omega) (by omega)]
  refine (Xt r4 (1+c) n (by omega) (by omega)).to ?_
  rintro _ h5 ⟨u,ts,rfl,ru,hs,hsl,fu,r5,c5⟩
  have C:=((c2.trans (r2.self b3)).trans (r3.self b4)).trans (c5.to fun i _ e=> .inl e)
  have o5:=((o2.but b3 (zq (by omega))).but b4 (zq (by omega))).chg c5 (by omega)
  exact Yh o5 rfl (Nat.le_refl _) hlt ru fu (fun e=>by have:=fu _ e;omega) r5 C fun h' a' b' c'=>⟨_,rfl,u,1+c,ts,rfl,a',.inl hs,fu.le (by omega),b',c'⟩
end
end Go.Proofs.YtlcgclmobfdbcaaGreat.Cl
set_option linter.unusedVariables false
set_option linter.unusedSimpArgs false
namespace Go.Proofs.YtlcgclmobfdbcaaGreat.Cl
open Go
theorem Rd.keep {h h':H} {s:Sl} {z:Nat} {cs:List AVal} {P:Nat→Prop} (r:Rd h s z cs) (c:Chg (fun i=>P i∨h.length≤i) h h') (hn:∀i,s.o=some i→¬P i):Rd h' s z cs:=by
 refine ⟨r.len,r.at_.imp id fun ⟨x,y,e⟩=>⟨x,y,c.range e fun i hi=>?_⟩⟩
 obtain ⟨j,xs,hj,hc,_,_⟩:=zL e
 have:=yC hc
 rw [hi] at hj
 have:=Option.some.inj hj
 rintro (h1 | h1)
 ·exact hn i hi h1
 ·omega
def DrB (n:Nat) (h:H) (o:Nat) (cs:List AVal) (h':H):Prop:=∃u c ts,cs=SetC c u∧Rd h' u 4 (tcs ts)∧ts.length≤17∧Fr n u∧Src h' o∧Chg (fun i=>i=o) h h'
section
variable {h:H} {o n:Nat} {u:Sl} {c:Int} {ts:List Tile}
theorem DrB.ret {g:H} {p:Nat} {l:List AVal} {w:Sl} {d:Int} {us:List Tile} (P:Obj g p l) (hl:l.length=2) (hp:h.length≤p) (hop:o<h.length) (r:Rd g w 4 (tcs us)) (f:Fr n w) (hn:w.o≠some p) (s:Src g o) (ch:Chg (fun i=>i=o∨h.length≤i) h g)
  (hu:us.length≤17):stN ⟨some p,2,0⟩ 2 (SetC d w) g fun h6=>ldA ⟨some p,2,0⟩ 2 h6 fun cs=>∃cs',AVal.agg cs=AVal.agg cs'∧DrB n h o cs' h6:=
 Yh P hl hp hop r f hn s ch fun h' a b c'=>⟨_,rfl,w,d,us,rfl,a,hu,f,b,c'⟩
theorem zNl (r:Src h o) (ru:Rd h u 4 (tcs ts)) (hw:WSet c ts) (fu:Fr n u) (hn:n≤h.length) (ho:o<n):callA SP zBQ [.ptr ⟨some o,3,0⟩,.agg (SetC c u)] h fun cs h'=>DrB n h o cs h':=by
 have hlt:=r.lt
 have h16:=hw.len
 have hul:=ru.tlen
 apply zCH
 unfold zdG
 refine zk fun h1 a1 x1 n1=>?_
 refine zo fun h2 o2 x2 n2=>?_
 refine zj (by rfl) fun s h3 os ls so e3=>?_
 have x3:Ext h2 h3:=by rw [e3];exact Ext.app _ _
 have n3:h3.length=h2.length+1:=by rw [e3];simp
 have X3:=x1.trans (x2.trans x3)
 have a3:=a1.ext (x2.trans x3)
 have o3:=o2.ext x3
 refine zh (a3.ldS rfl rfl ?_)
 refine yk (by omega) os (ru.ext X3) (by rw [ls,hul];unfold lim;omega) fun s4 h4 os4 l4 b4 k4 _=>?_
 have so4:=k4 _ so
 rw [so] at b4
 rw [List.nil_append] at os4
 have hb4:=b4.1
 have r4:=(r.ext X3).but b4 fun i e=>by have:=Option.some.inj e;omega
 have a4:=a3.but b4 (zq (by omega))
 have o4:=o3.but b4 (zq (by omega))
 have C4:Chg (fun i=>i=o∨h.length≤i) h h4:=(X3.chg _).trans (b4.chg fun i e=> .inr (by have:=Option.some.inj e;omega))
 refine (zH r4 50).to ?_
 rintro x h5 ⟨hx,r5,b5,l5⟩
 have os5:=os4.but b5 (.inl fun e=>by rw [so4] at e;have:=Option.some.inj e;omega)
 have a5:=a4.but b5 (zq (by omega))
 have o5:=o4.but b5 (zq (by omega))
 have C5:=C4.trans (r4.self b5)
 have f4:Fr n s4:=fun i e=>by rw [so4] at e;have:=Option.some.inj e;omega
 have hs4:=os5.rd.tlen
 have hp:h.length≤h1.length:=by omega
 have ne4:s4.o≠some h1.length:=by rw [so4];exact zq (by omega)
 refine zp (fun _=>?_) (fun _=>?_)
 ·refine vF r5 (l:=[0,7,-1]) rfl rfl (by simp) fun a g1 ha r6 c6=>?_
  exact DrB.ret (o5.chg c6 (by omega)) rfl hp hlt (os5.chg c6 fun i e=>by rw [so4] at e;have:=Option.some.inj e;omega).rd f4 ne4 r6 (C5.trans (c6.to fun i _ e=> .inl e)) (by omega)
 refine zp (fun _=>?_) (fun _=>?_)
 ·refine zh (a5.ldI rfl rfl ?_)
  refine zj (by rfl) fun q g1 oq lq qo e1=>?_
  have y1:Ext h5 g1:=by rw [e1];exact Ext.app _ _
  have m1:g1.length=h5.length+1:=by rw [e1];simp
  have a6:=a5.ext y1
  refine ⟨(a6.cellE rfl).trans (a5.cellE rfl).symm,?_⟩
  refine (zlw (r5.ext y1) (l:=[0,-1]) oq.rd (by rw [qo];exact zq (by omega)) (by simp)).to ?_
  rintro a g2 ⟨ha,r6,b6,l6⟩
  have a7:=a6.but b6 (zq (by omega))
  refine ⟨(a7.cellE rfl).trans (a5.cellE rfl).symm,rfl,?_⟩
  have os7:=(os5.ext y1).but b6 (.inl fun e=>by rw [so4] at e;have:=Option.some.inj e;omega)
  refine XH (t:=(c,0,0,a)) os7 (by unfold lim;omega) fun s7 g3 os8 b7 hs7 l7=>?_
  rw [so4] at b7
  have a8:=a7.but b7 (zq (by omega))
  refine zh (a8.ldI rfl rfl ?_)
  have fr7:∀i,s7.o=some i→i=h2.length∨g2.length≤i:=fun i e=>(hs7 i e).imp (fun e=>by rw [so4] at e;exact (Option.some.inj e).symm) id
  exact DrB.ret (((o5.ext y1).but b6 (zq (by omega))).but b7 (zq (by omega))) rfl hp hlt os8.rd (fun i e=>by have:=fr7 i e;omega) (fun e=>by have:=fr7 _ e;omega) (r6.but b7 fun i e=>by have:=Option.some.inj e;omega) (((C5.trans (y1.chg _)).trans ((r5.ext y1).self b6)).trans (b7.chg fun i e=> .inr (by have:=Option.some.inj e;omega))) (by rw [List.length_append,List.length_singleton];omega)
 refine zp (fun _=>?_) (fun _=>?_)
 ·refine zh (a5.ldI rfl rfl ?_)
  refine (zbX r5 c).to ?_
  rintro _ g2 ⟨t,rfl,ht,r6,c6⟩
  have hc6:=c6.1
  refine ⟨rfl,?_⟩
  have a7:=a5.chg c6 (by omega)
  have os7:=os5.chg c6 fun i e=>by rw [so4] at e;have:=Option.some.inj e;omega
  refine XH (t:=t) os7 (by unfold lim;omega) fun s7 g3 os8 b7 hs7 l7=>?_
  rw [so4] at b7
  have a8:=a7.but b7 (zq (by omega))
  refine zh (a8.ldI rfl rfl ?_)
  have fr7:∀i,s7.o=some i→i=h2.length∨g2.length≤i:=fun i e=>(hs7 i e).imp (fun e=>by rw [so4] at e;exact (Option.some.inj e).symm) id
  exact DrB.ret ((o5.chg c6 (by omega)).but b7 (zq (by omega))) rfl hp hlt os8.rd (fun i e=>by have:=fr7 i e;omega) (fun e=>by have:=fr7 _ e;omega) (r6.but b7 fun i e=>by have:=Option.some.inj e;omega) ((C5.trans (c6.to fun i _ e=> .inl e)).trans (b7.chg fun i e=> .inr (by have:=Option.some.inj e;omega))) (by rw [List.length_append,List.length_singleton];omega)
 refine zp (fun _=>?_) (fun _=>?_)
 ·refine zc (fun h2l=>?_) (fun _=>?_)
  ·refine os5.rd.tileG (by omega) (by omega) ?_
   refine zo fun g1 q1 y1 m1=>?_
   refine q1.stA fun g2 q2 bb2 m2=>?_
   have y12:=y1.but_ bb2 (zi (Nat.le_refl _))
   have os6:=os5.ext y12
   refine os6.rd.tileG (by omega) (by omega) ?_
   refine os6.stA (by omega) (by omega) _ (qP _) fun g3 os7 b7 n7=>?_
   rw [so4] at b7
   rw [show (0:Int).toNat*4=0*4 by rfl,zcl _ _ _ (by omega)] at os7
   refine (q2.but b7 (zq (by omega))).ldA rfl ?_
   refine os7.stA (by omega) (by omega) _ (qP _) fun g4 os8 b8 n8=>?_
   rw [so4] at b8
   rw [show (1:Int).toNat*4=1*4 by rfl,zcl _ _ _ (by rw [List.length_set];omega)] at os8
   have A:=((a5.ext y12).but b7 (zq (by omega))).but b8 (zq (by omega))
   refine zh (A.ldI rfl rfl ?_)
   exact DrB.ret (((o5.ext y12).but b7 (zq (by omega))).but b8 (zq (by omega))) rfl hp hlt os8.rd f4 ne4 (((r5.ext y12).but b7 fun i e=>by have:=Option.some.inj e;omega).but b8 fun i e=>by have:=Option.some.inj e;omega) (((C5.trans (y12.chg _)).trans (b7.chg fun i e=> .inr (by have:=Option.some.inj e;omega))).trans (b8.chg fun i e=> .inr (by have:=Option.some.inj e;omega))) (by simp only [List.length_set];omega)
  ·refine zh (a5.ldI rfl rfl ?_)
   exact DrB.ret o5 rfl hp hlt os5.rd f4 ne4 r5 C5 (by omega)
 ·refine a5.ldA rfl ?_
  have rd5:=ru.keep (P:=fun i=>i=o) C5 fun i e=>by have:=fu i e;omega
  refine o5.stA (fun h6 o6 b6 n6=>?_) rfl
  have C6:Chg (fun i=>i=o∨h.length≤i) h h6:=C5.trans (b6.chg fun i e=> .inr (by have:=Option.some.inj e;omega))
  exact o6.ldA rfl ⟨_,rfl,u,c,ts,rfl,ru.keep (P:=fun i=>i=o) C6 fun i e=>(by have:=fu i e;omega),(by omega),fu,r5.but b6 fun i e=>(by have:=Option.some.inj e;omega),C6.to fun i hi e=>(by omega)⟩
end
end Go.Proofs.YtlcgclmobfdbcaaGreat.Cl
set_option linter.unusedVariables false
set_option linter.unusedSimpArgs false
namespace Go.Proofs.YtlcgclmobfdbcaaGreat.Cl
open Go
theorem zLs {P:Program} {h:H} {t:TypeId} {xs:List AVal} {pd:PD} {k:IntKind} (hu:P.underlying t=some (.int k)) (d:Den P h t xs pd):∃n,xs=[.int k n]∧(Lit.int k n).wf=true:=by
 cases d with
 | int a b=>rw [hu] at a;cases a;exact ⟨_,rfl,b⟩
 | bool a=>rw [hu] at a;cases a
 | arr a=>rw [hu] at a;cases a
 | struct a=>rw [hu] at a;cases a
 | sl a=>rw [hu] at a;cases a
theorem zNg {P:Program} {h:H} {t e:TypeId} {xs:List AVal} {pd:PD} (hu:P.underlying t=some (.slice e)) (d:Den P h t xs pd):∃(s:Sl) (ass:List (List AVal)) (ds:List PD),xs=[.sl s]∧ass.length=s.len∧ds.length=s.len∧s.len≤maxLen∧Rd h s (P.cellsOf e) ass.flatten∧∀(i:Nat) a d,ass[i]? = some a→ds[i]? = some d→Den P h e a d:=by
 cases d with
 | int a b=>rw [hu] at a;cases a
 | bool a=>rw [hu] at a;cases a
 | arr a=>rw [hu] at a;cases a
 | struct a=>rw [hu] at a;cases a
 | sl a b c d e f=>rw [hu] at a;cases a;exact ⟨_,_,_,rfl,b,c,d,e,f⟩
end Go.Proofs.YtlcgclmobfdbcaaGreat.Cl
set_option linter.unusedVariables false
set_option linter.unusedSimpArgs false
namespace Go.Proofs.YtlcgclmobfdbcaaGreat.Cl
open Go
theorem zbm {h0:H} {s s':Sl} {l l':List Int} (r:Rd h0 s 1 (ic l)) (r':Rd h0 s' 1 (ic l')) (hl:l.length<4000000000000000000):callB SP zBW [.sl s,.sl s'] h0 fun b h'=>b=(l==l')∧h'=h0:=by
 have hlen:s.len=l.length:=by have:=r.len;rw [vm] at this;omega
 have hlen':s'.len=l'.length:=by have:=r'.len;rw [vm] at this;omega
 apply zDa
 unfold zeo
 refine zF (fun hq=>?_) (fun hq=>?_)
 ·refine ⟨_,rfl,?_,rfl⟩
  cases hb:l==l' with
  | false=>rfl
  | true=>rw [beq_iff_eq] at hb;subst hb;omega
 refine zul _ _ _ _ (fun i h=>0≤i∧i≤l.length∧h=h0∧∀j,j<i.toNat→l[j]? = l'[j]?) (fun i _=>(l.length-i).toNat) ?_ _ ⟨by omega,by omega,rfl,fun j hj=>by omega⟩
 rintro X i _ ⟨i0,i1,rfl,hn⟩ hX
 unfold zun zGL
 refine zc (fun hi=>?_) (fun hi=>?_)
 ·refine r.ldI i0 (by omega) fun x hxe=>r'.ldI i0 (by omega) fun y hye=>?_
  refine zF (fun hq=>?_) (fun hq=>?_)
  ·refine ⟨_,rfl,?_,rfl⟩
   cases hb:l==l' with
   | false=>rfl
   | true=>
    rw [beq_iff_eq] at hb;subst hb
    rw [hxe] at hye;cases hye
    exact absurd rfl hq
  ·rw [zf (by omega) (by omega)]
   refine hX _ _ ⟨by omega,by omega,rfl,fun j hj=>?_⟩ (by omega)
   by_cases hji:j=i.toNat
   ·subst hji
    rw [hxe,hye,hq]
   ·exact hn j (by omega)
 ·refine ⟨_,rfl,?_,rfl⟩
  symm
  rw [beq_iff_eq]
  apply List.ext_getElem?
  intro j
  by_cases hj:j<l.length
  ·exact hn j (by omega)
  ·rw [List.getElem?_eq_none (by omega),List.getElem?_eq_none (by omega)]
theorem zqA {h0:H} {s s':Sl} {ls ls':List (List Int)} (r:RdSS h0 s ls) (r':RdSS h0 s' ls') (hl:ls.length<4000000000000000000) (hls:∀l∈ls,l.length<4000000000000000000):callB SP i_f9 [.sl s,.sl s'] h0 fun b h'=>b=(ls==ls')∧h'=h0:=by
 have hlen:=r.len
 have hlen':=r'.len
 apply zJe
 unfold zjq
 refine zF (fun hq=>?_) (fun hq=>?_)
 ·refine ⟨_,rfl,?_,rfl⟩
  cases hb:ls==ls' with
  | false=>rfl
  | true=>rw [beq_iff_eq] at hb;subst hb;omega
 refine zCc _ _ _ _ (fun i h=>0≤i∧i≤ls.length∧h=h0∧∀j,j<i.toNat→ls[j]? = ls'[j]?) (fun i _=>(ls.length-i).toNat) ?_ _ ⟨by omega,by omega,rfl,fun j hj=>by omega⟩
 rintro X i _ ⟨i0,i1,rfl,hn⟩ hX
 unfold zJf zMh
 refine zc (fun hi=>?_) (fun hi=>?_)
 ·refine r.ld i0 (by omega) fun v l hv rv lv=>r'.ld i0 (by omega) fun v' l' hv' rv' lv'=>?_
  refine (zbm rv rv' (hls l (List.mem_of_getElem? hv))).to ?_
  rintro _ _ ⟨rfl,rfl⟩
  refine zr (fun hq=>?_) (fun hq=>?_)
  ·refine ⟨_,rfl,?_,rfl⟩
   cases hb:ls==ls' with
   | false=>rfl
   | true=>
    rw [beq_iff_eq] at hb;subst hb
    rw [hv] at hv';cases hv'
    simp at hq
  ·rw [zf (by omega) (by omega)]
   refine hX _ _ ⟨by omega,by omega,rfl,fun j hj=>?_⟩ (by omega)
   by_cases hji:j=i.toNat
   ·subst hji
    rw [hv,hv']
    simp at hq
    rw [hq]
   ·exact hn j (by omega)
 ·refine ⟨_,rfl,?_,rfl⟩
  symm
  rw [beq_iff_eq]
  apply List.ext_getElem?
  intro j
  by_cases hj:j<ls.length
  ·exact hn j (by omega)
  ·rw [List.getElem?_eq_none (by omega),List.getElem?_eq_none (by omega)]
theorem zND {h:H} (s:Sl):callB SP i_f3 [.sl s] h fun b h'=>b=decide ((s.len:Int)>4096)∧h=h':=by
 apply zJs
 unfold zjy
 exact ⟨_,rfl,rfl,rfl⟩
theorem ziM {P:Program} {h:H} {t:TypeId} (ht:P.underlying t=some (.int .u8)):∀(ass:List (List AVal)) (ds:List PD),ass.length=ds.length→(∀(i:Nat) a d,ass[i]? = some a→ds[i]? = some d→Den P h t a d)→∃l:List Int,ass.flatten=bc l∧∀b∈l,0≤b∧b<256
 | [],_,_,_=>⟨[],rfl,fun b hb=>by cases hb⟩
 | a::ass,[],h,_=>by simp at h
 | a::ass,d::ds,hl,hd=>by
  obtain ⟨n,rfl,w⟩:=zLs ht (hd 0 a d rfl rfl)
  obtain ⟨l,e,hb⟩:=ziM ht ass ds (by simpa using hl) (fun i a d x y=>hd (i+1) a d (by simpa using x) (by simpa using y))
  have w':(decide (IntKind.u8.min≤n)&&decide (n≤IntKind.u8.max))=true:=w
  simp only [Bool.and_eq_true,decide_eq_true_eq] at w'
  have h1:IntKind.u8.min=0:=by decide
  have h2:IntKind.u8.max=255:=by decide
  refine ⟨n::l,by rw [List.flatten_cons,e];rfl,fun b hb'=>?_⟩
  rcases List.mem_cons.1 hb' with rfl | hb'
  ·omega
  ·exact hb b hb'
theorem zAI {P:Program} {h:H} {t u:TypeId} {xs:List AVal} {pd:PD} (ht:P.underlying t=some (.slice u)) (hu:P.underlying u=some (.int .u8)) (hc:P.cellsOf u=1) (d:Den P h t xs pd):∃(s:Sl) (l:List Int),xs=[.sl s]∧Rd h s 1 (bc l)∧∀b∈l,0≤b∧b<256:=by
 obtain ⟨s,ass,ds,rfl,l1,l2,l3,r,hd⟩:=zNg ht d
 obtain ⟨l,e,hb⟩:=ziM hu ass ds (by omega) hd
 rw [hc,e] at r
 exact ⟨s,l,rfl,r,hb⟩
end Go.Proofs.YtlcgclmobfdbcaaGreat.Cl
set_option linter.unusedVariables false
set_option linter.unusedSimpArgs false
namespace Go.Proofs.YtlcgclmobfdbcaaGreat.Cl
open Go
section
variable {h:H} {o:Nat}
end
end Go.Proofs.YtlcgclmobfdbcaaGreat.Cl
set_option linter.unusedVariables false
set_option linter.unusedSimpArgs false
namespace Go.Proofs.YtlcgclmobfdbcaaGreat.Cl
open Go
section
variable {h:H} {a:Nat} {c:Int} {s q:Sl} {ts:List Tile} {rows:List (List Int)}
theorem Yd (o:Obj h a (SetC c s)) (r:Rd h s 4 (tcs ts)) (rr:RdSS h q rows) {y x k:Int} (y0:0≤y) (y1:y<rows.length) (x0:0≤x) (x1:x<(rw_ rows y.toNat).length) (hn:0≤G rows y.toNat x.toNat∧G rows y.toNat x.toNat<ts.length) (k0:0≤k) (k1:k<4) {K:Int→Prop} (hk:K (sd (tat ts (G rows y.toNat x.toNat)) k.toNat)):
  isPt ⟨some a,2,0⟩ (ldS (Pt.add ⟨some a,2,0⟩ 1) h fun s2=>ixS q 1 y fun p=>ldS p h fun v=>ixS v 1 x fun p=>ldI .i64 p h fun n=>ixS s2 4 n fun p=>ixA p 4 1 k fun p=>ldI .i64 p h K):=
 zh (o.ldS rfl rfl (rr.ldG y0 y1 fun v rv lv=>rv.ldG x0 x1 (r.sideG hn.1 hn.2 k0 k1 hk)))
end
abbrev S_ (ts:List Tile) (rows:List (List Int)) (y x k:Nat):Int:=sd (tat ts (G rows y x)) k
def ziO (ts:List Tile) (rows:List (List Int)) (y x:Nat):Prop:=(0<x→S_ ts rows y (x-1) 2=S_ ts rows y x 0)∧(0<y→S_ ts rows (y-1) x 3=S_ ts rows y x 1)
def zlk (ts:List Tile) (rows:List (List Int)):Prop:=∀y x,y<rows.length→x<(rw_ rows y).length→ziO ts rows y x
section
variable {h0:H} {c:Int} {s q:Sl} {ts:List Tile} {rows:List (List Int)}
theorem zri (r:Rd h0 s 4 (tcs ts)) (rr:RdSS h0 q rows) (hN:Nums ts.length rows):callB SP zIJ [.agg (SetC c s),.sl q] h0 fun b h'=>(b=true↔zlk ts rows)∧Ext h0 h':=by
 have hl:=r.tlen
 have hq:=rr.len
 have hT:=hN.2
 apply zCz
 unfold zdr
 refine zk fun h1 o1 x1 n1=>?_
 refine zto _ _ _ _ (fun i h=>0≤i∧i≤rows.length∧Ext h1 h∧∀y x,y<i.toNat→x<(rw_ rows y).length→ziO ts rows y x) (fun i _=>(rows.length-i).toNat) ?_ _ ⟨by omega,by omega,Ext.refl _,fun y x hy=>by omega⟩
 rintro X i h ⟨i0,i1,x,hj⟩ hX
 unfold zts zFV
 refine zc (fun hi=>?_) (fun hi=>⟨_,rfl,⟨fun _ y z hy hz=>hj y z (by omega) hz,fun _=>rfl⟩,x1.trans x⟩)
 refine ztn _ _ X _ _ _ (fun k h'=>0≤k∧k≤(rw_ rows i.toNat).length∧Ext h h'∧∀x,x<k.toNat→ziO ts rows i.toNat x) (fun k _=>((rw_ rows i.toNat).length-k).toNat) ?_ _ ⟨by omega,by omega,Ext.refl _,fun x hx=>by omega⟩
 rintro Y k h' ⟨k0,k1,x',hk⟩ hY
 unfold ztr zFT zFU
 have XX:=(x1.trans x).trans x'
 refine (rr.ext XX).ldG i0 (by omega) fun v rv lv=>?_
 have hrow:=hT.2 i.toNat (by omega)
 have h8:=hT.1
 refine zc (fun hki=>?_) (fun hki=>?_)
 ·have no:∀{h''},Ext h' h''→¬ziO ts rows i.toNat k.toNat→∃b,AVal.bool false = .bool b∧(b=true↔zlk ts rows)∧Ext h0 h'':=fun {h''} x2 hn=>
   ⟨_,rfl,by simp only [Bool.false_eq_true,false_iff];exact fun f=>hn (f _ _ (by omega) (by omega)),XX.trans x2⟩
  have hc:=hN.1 i.toNat k.toNat (by omega) (by omega)
  have o:=o1.ext (x.trans x')
  refine zh (o.ldS rfl rfl ?_)
  refine (rr.ext XX).ixC i0 (by omega) fun p3 v2 e3 rv2 lv2=>⟨v2,e3,?_⟩
  refine rv2.ixC k0 (by omega) fun p5 e5=>⟨_,e5,?_⟩
  refine (r.ext XX).ixT hc.1 hc.2 fun p7 po e7=>⟨_,e7,?_⟩
  refine zo fun h2 o2 x2 n2=>?_
  refine ⟨x2.rangeE e7,x2.cellE e5,x2.cellE e3,x2.cellE (o.cellE rfl),?_⟩
  refine o2.stA fun h3 o3 b3 n3=>?_
  have x3:Ext h' h3:=x2.but_ b3 (zi (Nat.le_refl _))
  have o':=o.ext x3
  have r':=r.ext (XX.trans x3)
  have rr':=rr.ext (XX.trans x3)
  have hcG:G rows i.toNat k.toNat=(rw_ rows i.toNat).getD k.toNat 0:=rfl
  have next:ziO ts rows i.toNat k.toNat→Y (vP q ⟨some h0.length,2,0⟩ i (w64 (k+1))) h3:=fun hok=>by
   rw [zf (by omega) (by omega)]
   refine hY _ _ ⟨by omega,by omega,x'.trans x3,fun z hz=>?_⟩ (by omega)
   by_cases e:z=k.toNat
   ·subst e;exact hok
   ·exact hk z (by omega)
  have up:(0<k→S_ ts rows i.toNat (k.toNat-1) 2=S_ ts rows i.toNat k.toNat 0)→bif (decide (i>0)) then
    isPt ⟨some h0.length,2,0⟩ (ldS (Pt.add ⟨some h0.length,2,0⟩ 1) h3 fun s2=>ixS q 1 (w64 (i-1)) fun p=>ldS p h3 fun u=>ixS u 1 k fun p=>ldI .i64 p h3 fun n=>ixS s2 4 n fun p=>ixA p 4 1 3 fun p=>ldI .i64 p h3 fun n29=>
     ixA ⟨some h'.length,4,0⟩ 4 1 1 fun p=>ldI .i64 p h3 fun n31=>bif (n29 != n31) then ∃r,AVal.bool false = .bool r∧(r=true↔zlk ts rows)∧Ext h0 h3 else Y (vP q ⟨some h0.length,2,0⟩ i (w64 (k+1))) h3)
    else Y (vP q ⟨some h0.length,2,0⟩ i (w64 (k+1))) h3:=fun hw=>by
   refine zc (fun hp=>?_) (fun hp=>next ⟨fun h=>hw (by omega),fun h=>by omega⟩)
   rw [zf (n:=i-1) (by omega) (by omega)]
   have hrow':=hT.2 (i-1).toNat (by omega)
   refine Yd o' r' rr' (by omega) (by omega) k0 (by omega) (hN.1 _ _ (by omega) (by omega)) (by omega) (by omega) ?_
   refine o3.sdI (by omega) (by omega) ?_
   rw [show (i-1).toNat=i.toNat-1 by omega]
   refine zF (fun hq=>no x3 fun t=>hq (t.2 (by omega))) (fun hq=>next ⟨fun h=>hw (by omega),fun _=>hq⟩)
  refine zc (fun hp=>?_) (fun hp=>up fun h=>by omega)
  rw [zf (n:=k-1) (by omega) (by omega)]
  refine Yd o' r' rr' i0 (by omega) (by omega) (by omega) (hN.1 _ _ (by omega) (by omega)) (by omega) (by omega) ?_
  refine o3.sdI (by omega) (by omega) ?_
  rw [show (k-1).toNat=k.toNat-1 by omega]
  exact zF (fun hq=>no x3 fun t=>hq (t.1 (by omega))) (fun hq=>up fun _=>hq)
 ·rw [zf (by omega) (by omega)]
  refine hX _ _ ⟨by omega,by omega,x.trans x',fun y z hy hz=>?_⟩ (by omega)
  by_cases e:y=i.toNat
  ·subst e;exact hk z (by omega)
  ·exact hj y z (by omega) hz
end
end Go.Proofs.YtlcgclmobfdbcaaGreat.Cl
set_option linter.unusedVariables false
set_option linter.unusedSimpArgs false
namespace Go.Proofs.YtlcgclmobfdbcaaGreat.Cl
open Go
section
variable {h0:H} {c:Int} {s q:Sl} {ts:List Tile} {rows:List (List Int)}
end
end Go.Proofs.YtlcgclmobfdbcaaGreat.Cl
set_option linter.unusedVariables false
set_option linter.unusedSimpArgs false
namespace Go.Proofs.YtlcgclmobfdbcaaGreat.Cl
open Go
theorem NewSS.push {n m:Nat} {h:H} {s:Sl} {ls:List (List Int)} (r:NewSS n h s ls) {v:Sl} {l:List Int} (ov:Ow h v 1 (ic l)) (fv:Fr m v) (hnm:n≤m) (hm:∃h0:H,NewSS n h0 s ls∧h0.length≤m∧Ext h0 h)
  (hl:(ls.length:Int)+1≤lim) (hnh:n≤h.length) {K:Sl→H→Prop} (hk:∀s' h',NewSS n h' s' (ls++[l])→But s.o h h'→K s' h'):newS 1 1 [.sl v] h fun t h1=>Cl.app s t 1 h1 K:=by
 refine zj (by rfl) fun t h1 ot tl to e1=>?_
 have e1':Ext h h1:=by rw [e1];exact Ext.app _ _
 obtain ⟨h0,r0,l0,x0⟩:=hm
 refine (r.ext e1').app_new (ov.ext e1') fv hnm ⟨h0,r0,l0,x0.trans e1'⟩ ot.rd hl (Nat.le_trans hnh e1'.len) fun s' h' n' b _ _=>hk s' h' n' ((e1'.but _).trans b)
theorem NewSS.fr {n h s ls} (r:NewSS n h s ls):Fr n s:=by obtain ⟨_,_,_,f,_⟩:=r;exact f
def tab1 (n:Nat) (f:Nat→Int):List Int:=(List.range n).map f
def tab2 (n:Nat) (f:Nat→List Int):List (List Int):=(List.range n).map f
theorem zAY (n f):(tab1 n f).length=n:=by simp [tab1]
theorem zAX (n f):(tab2 n f).length=n:=by simp [tab2]
theorem zAW {n f y} (h:y<n):rw_ (tab2 n f) y=f y:=by
 unfold rw_ tab2
 rw [List.getD_eq_getElem?_getD,List.getElem?_map,List.getElem?_range h];rfl
abbrev wide (rows:List (List Int)):Nat:=(rw_ rows 0).length
def zgI (rows:List (List Int)) (a b:Nat):List (List Int):=tab2 rows.length fun y=>tab1 (wide rows) fun x=>G rows ((y+a)%rows.length) ((x+b)%wide rows)
structure Rect (rows:List (List Int)):Prop where
 h0:1≤rows.length
 h1:rows.length≤8
 w:∀y,y<rows.length→(rw_ rows y).length=wide rows
 w0:1≤wide rows
 w1:wide rows≤8
theorem Ye (rows a b):(zgI rows a b).length=rows.length:=zAX _ _
theorem zba {rows a b y} (h:y<rows.length):(rw_ (zgI rows a b) y).length=wide rows:=by unfold zgI;rw [zAW h,zAY]
theorem Rect.shift {rows} (r:Rect rows) (a b):Rect (zgI rows a b):=by
 have w:wide (zgI rows a b)=wide rows:=zba r.h0
 exact ⟨by rw [Ye];exact r.h0,by rw [Ye];exact r.h1,fun y hy=>by rw [w];rw [Ye] at hy;exact zba hy,by rw [w];exact r.w0,by rw [w];exact r.w1⟩
section
variable {h0:H} {q:Sl} {rows:List (List Int)}
end
section
variable {h0:H} {q q':Sl} {A B:List (List Int)}
end
end Go.Proofs.YtlcgclmobfdbcaaGreat.Cl
set_option linter.unusedVariables false
set_option linter.unusedSimpArgs false
namespace Go.Proofs.YtlcgclmobfdbcaaGreat.Cl
open Go
theorem NewP.app {P:Nat→Prop} {h s ls} (r:NewP P h s ls) {v:Sl} {l:List Int} (ov:Ow h v 1 (ic l)) (fv:∀o,v.o=some o→P o) (hap:∀o,v.o=some o→s.o≠some o∧∀vs:List Sl,Ow h s 1 (vs.map .sl)→∀w∈vs,w.o≠some o)
  {x:Sl} (rx:Rd h x 1 [.sl v]) (hl:(ls.length:Int)+1≤lim) (hnh:∀i,h.length≤i→P i) {K:Sl→H→Prop} (hk:∀s' h',NewP P h' s' (ls++[l])→But s.o h h'→(∀o,s.o=some o→s'.o=some o)→(s.o=none→∀o,s'.o=some o→h.length≤o)→K s' h'):Cl.app s x 1 h K:=by
 obtain ⟨vs,h1,h2,h3,h4,h5,h6⟩:=r
 have hx:x.len=1:=by have:=rx.len;simp at this;omega
 have hs:s.len=ls.length:=by have:=h2.len;simp at this;omega
 refine yk (by omega) h2 rx (by rw [hs,hx];exact_mod_cast hl) fun s' h' o' ln b k1 k2=>?_
 have hso:∀o,s'.o=some o→s.o=some o∨h.length≤o:=fun o e=>by
  cases hq:s.o with
  | none=>exact .inr (k2 hq o e)
  | some p=>rw [k1 p hq] at e;exact .inl e
 refine hk s' h' ⟨vs++[v],by simp [h1],by simpa using o',?_,?_,?_,?_⟩ b k1 k2
 ·intro o e
  rcases hso o e with e | e
  ·exact h3 o e
  ·exact hnh o e
 ·intro i w l' a c
  rw [List.getElem?_append] at a c
  rw [h1] at a
  split at a
  ·next hi=>
   rw [if_pos hi] at c
   obtain ⟨p,q⟩:=h4 i w l' a c
   refine ⟨p.but b ?_,q⟩
   cases hw:w.o with
   | none=>
    cases hq:s.o with
    | none=>exact .inr rfl
    | some _=>exact .inl (by simp)
   | some o=>exact .inl (by rw [←hw];intro e;exact h6 i w a o hw (by rw [e,hw]))
  ·next hi=>
   rw [if_neg hi] at c
   have:i=ls.length:=by
    have:=(List.getElem?_eq_some_iff.1 c).1
    simp at this;omega
   subst this
   simp at a c
   subst a c
   refine ⟨ov.but b ?_,fv⟩
   cases hw:v.o with
   | none=>
    cases hq:s.o with
    | none=>exact .inr rfl
    | some _=>exact .inl (by simp)
   | some o=>exact .inl (by intro e;exact (hap o hw).1 e)
 ·intro i j w u hne a c o e
  have hwl:∀{k:Nat} {y:Sl},(vs++[v])[k]? = some y→vs[k]? = some y∨(k=vs.length∧y=v):=fun {k y} e=>by
   rw [List.getElem?_append] at e
   split at e
   ·exact .inl e
   ·have:k=vs.length:=by
     have:=(List.getElem?_eq_some_iff.1 e).1
     simp at this;omega
    subst this
    simp at e
    exact .inr ⟨rfl,e.symm⟩
  rcases hwl a with a1 | ⟨rfl,rfl⟩
  ·rcases hwl c with c1 | ⟨rfl,rfl⟩
   ·exact h5 i j w u hne a1 c1 o e
   ·intro e2
    exact (hap o e2).2 vs h2 w (List.mem_of_getElem? a1) e
  ·rcases hwl c with c1 | ⟨rfl,rfl⟩
   ·exact (hap o e).2 vs h2 u (List.mem_of_getElem? c1)
   ·exact absurd rfl hne
 ·intro i w a o e
  have hlt:o<h.length∧s.o≠some o:=by
   rw [List.getElem?_append] at a
   split at a
   ·obtain ⟨l',hl'⟩:=Yl h1 a
    exact ⟨(h4 i w l' a hl').1.lt e,h6 i w a o e⟩
   ·have:w=v:=by
     have:=List.mem_of_getElem? a
     simpa using this
    subst this
    exact ⟨ov.lt e,(hap o e).1⟩
  intro e2
  rcases hso o e2 with e3 | e3
  ·exact hlt.2 e3
  ·omega
theorem NewP.push {P:Nat→Prop} {h:H} {s:Sl} {ls:List (List Int)} (r:NewP P h s ls) {v:Sl} {l:List Int} {h0:H} (r0:NewP P h0 s ls) (x0:Ext h0 h) (ov:Ow h v 1 (ic l)) (fv:Fr h0.length v) (hP:∀i,h0.length≤i→P i)
  (hl:(ls.length:Int)+1≤lim) {K:Sl→H→Prop} (hk:∀s' h',NewP P h' s' (ls++[l])→But s.o h h'→K s' h'):newS 1 1 [.sl v] h fun t h1=>Cl.app s t 1 h1 K:=by
 refine zj (by rfl) fun t h1 ot tl to e1=>?_
 have e1':Ext h h1:=by rw [e1];exact Ext.app _ _
 have l0:=x0.len
 have l1:=e1'.len
 refine (r.ext e1').app (ov.ext e1') (fun o e=>hP o (fv o e)) (fun o e=>?_) ot.rd hl (fun i hi=>hP i (by omega)) fun s' h' n' b _ _=>hk s' h' n' ((e1'.but _).trans b)
 obtain ⟨vs,h1',h2,h3,h4,h5,h6⟩:=r0
 have ho:=fv o e
 refine ⟨fun e2=>by have:=h2.lt e2;omega,fun us hu w hw=>?_⟩
 intro e2
 have hq:us=vs:=by
  have a:=hu.rd.sread (by omega)
  have b:=(h2.ext (x0.trans e1')).rd.sread (by omega)
  rw [a] at b
  have:us.map AVal.sl=vs.map AVal.sl:=Option.some.inj b
  exact List.map_inj_right (fun a b e=>by simpa using e) |>.1 this
 subst hq
 obtain ⟨i,hi⟩:=List.getElem?_of_mem hw
 obtain ⟨l',hl'⟩:=Yl h1' hi
 have:=(h4 i w l' hi hl').1.lt e2
 omega
section
variable {h0:H} {q:Sl} {rows:List (List Int)}
end
end Go.Proofs.YtlcgclmobfdbcaaGreat.Cl
set_option linter.unusedVariables false
set_option linter.unusedSimpArgs false
namespace Go.Proofs.YtlcgclmobfdbcaaGreat.Cl
open Go
open Classical in
noncomputable def sel {α :Type} (A:Prop) (x d: α): α :=if A then x else d
section
variable {h0:H} {c:Int} {s q:Sl} {ts:List Tile} {rows:List (List Int)} {a b:Int}
end
end Go.Proofs.YtlcgclmobfdbcaaGreat.Cl
set_option linter.unusedVariables false
set_option linter.unusedSimpArgs false
namespace Go.Proofs.YtlcgclmobfdbcaaGreat.Cl
open Go
abbrev E_ (ts:List Tile) (n:Int) (k:Nat):Int:=sd (tat ts n) k
abbrev gt (l:List Int) (i:Nat):Int:=l.getD i 0
section
variable (ts:List Tile) (H W:Nat)
def hC (w:List Int) (k:Int):Prop:=0<w.length→E_ ts (gt w (w.length-1)) 2=E_ ts k 0
def zNi (w:List Int):Prop:=E_ ts (gt w (w.length-1)) 2=E_ ts (gt w 0) 0
noncomputable def rounds:Nat→List Int→List (List Int)
 | 0,w=>sel (zNi ts w) [w] []
 | m+1,w=>(List.range ts.length).flatMap fun (k:Nat)=>sel (hC ts w (k:Int)) (rounds m (w++[(k:Int)])) []
end
variable {ts:List Tile} {H W:Nat}
section
variable (c:Int) (ts:List Tile) (W:Nat)
noncomputable def words:List (List Int):=rounds ts W []
end
end Go.Proofs.YtlcgclmobfdbcaaGreat.Cl
set_option linter.unusedVariables false
set_option linter.unusedSimpArgs false
namespace Go.Proofs.YtlcgclmobfdbcaaGreat.Cl
open Go
theorem zLu {h0:H} {x:Sl} {l:List Int} (r:Rd h0 x 1 (ic l)) (hl:l.length≤1048576):callS SP zrN [.sl x] h0 fun s h'=>Ow h' s 1 (ic l)∧Fr h0.length s∧Ext h0 h':=by
 have hx:=r.ilen
 apply zyl
 unfold Vr
 refine yy (fun hn=>⟨_,rfl,?_,Fr.nil _,Ext.refl _⟩) (fun hn=>?_)
 ·have:x.len=0:=by
   rcases r.at_ with h | ⟨_,h,_⟩
   ·exact h
   ·unfold ZK at hn
    cases ho:x.o <;> simp [ho] at hn h
  have:l=[]:=List.length_eq_zero_iff.1 (by omega)
  subst this
  exact Ow.nil _ _
 ·refine zj (by rfl) fun s h1 os ls so e1=>?_
  have x1:Ext h0 h1:=by rw [e1];exact Ext.app _ _
  refine yk (cs:=[]) (by omega) os (r.ext x1) (by unfold lim;omega) fun s' h' o' ln b k1 k2=>⟨_,rfl,by simpa using o',fun o e=>?_,x1.but_ b fun o e=>by rw [so] at e;cases e;exact Nat.le_refl _⟩
  have:=k1 _ so
  rw [this] at e;cases e;exact Nat.le_refl _
structure TEnv (h:H) (H_ W:Nat) (oc oh ow ok os of_ od:Nat) (sc:Sl) (c:Int) (s:Sl) (gk:Nat) (capk:List AVal):Prop where
 vc:Var h oc (.sl sc)
 vh:Var h oh (i64 H_)
 vw:Var h ow (i64 W)
 vk:Var h ok (.func gk capk)
 vs:Obj h os (SetC c s)
 vf:Var h of_ (.func zLY [.ptr (pt oc),.ptr (pt oh),.ptr (pt ow),.ptr (pt ok),.ptr ⟨some os,2,0⟩,.ptr (pt of_)])
theorem TEnv.chg {P:Nat→Prop} {h h':H} {H_ W:Nat} {oc oh ow ok os of_ od:Nat} {sc:Sl} {c:Int} {s:Sl} {gk:Nat} {capk:List AVal} (e:TEnv h H_ W oc oh ow ok os of_ od sc c s gk capk) (x:Chg P h h')
  (hn:¬P oc∧¬P oh∧¬P ow∧¬P ok∧¬P os∧¬P of_):TEnv h' H_ W oc oh ow ok os of_ od sc c s gk capk:=
 ⟨e.vc.chg x hn.1,e.vh.chg x hn.2.1,e.vw.chg x hn.2.2.1,e.vk.chg x hn.2.2.2.1,e.vs.chg x hn.2.2.2.2.1,e.vf.chg x hn.2.2.2.2.2⟩
section
variable {hb:H} {c:Int} {s:Sl} {ts:List Tile} {H_ W:Nat} {oc oh ow ok os of_ od:Nat} {sc:Sl} {gk:Nat} {capk:List AVal} {n1:Nat} {σ :Type} {f: σ →List Int→ σ × Bool} {I: σ →H→Prop}
end
end Go.Proofs.YtlcgclmobfdbcaaGreat.Cl
set_option linter.unusedVariables false
set_option linter.unusedSimpArgs false
namespace Go.Proofs.YtlcgclmobfdbcaaGreat.Cl
open Go
section
variable {hb h0:H} {c:Int} {s:Sl} {ts:List Tile} {H_ W:Nat} {gk:Nat} {capk:List AVal} {σ :Type} {f: σ →List Int→ σ × Bool} {I: σ →H→Prop} {t: σ}
end
section
variable {h0:H} {c:Int} {s:Sl} {ts:List Tile} {H_ W:Nat}
end
section
variable {h0:H} {c:Int} {s q:Sl} {ts:List Tile} {W:Nat}
end
end Go.Proofs.YtlcgclmobfdbcaaGreat.Cl
set_option linter.unusedVariables false
set_option linter.unusedSimpArgs false
namespace Go.Proofs.YtlcgclmobfdbcaaGreat.Cl
open Go
section
variable {c:Int} {ts:List Tile} {W:Nat}
end
section
variable {h0:H} {c:Int} {s q:Sl} {ts:List Tile} {W:Nat}
end
end Go.Proofs.YtlcgclmobfdbcaaGreat.Cl
set_option linter.unusedVariables false
set_option linter.unusedSimpArgs false
namespace Go.Proofs.YtlcgclmobfdbcaaGreat.Cl
open Go
section
variable {h0:H} {c:Int} {s:Sl} {ts:List Tile} {a b:Int}
end
section
variable {h0:H} {c:Int} {s:Sl} {ts:List Tile} {a b:Int}
end
end Go.Proofs.YtlcgclmobfdbcaaGreat.Cl
set_option linter.unusedVariables false
set_option linter.unusedSimpArgs false
namespace Go.Proofs.YtlcgclmobfdbcaaGreat.Cl
open Go
section
variable {h0:H} {c:Int} {s:Sl} {ts:List Tile} {a b:Int}
end
section
variable {h0:H} {c:Int} {s:Sl} {ts:List Tile} {a b:Int}
end
end Go.Proofs.YtlcgclmobfdbcaaGreat.Cl
set_option linter.unusedVariables false
set_option linter.unusedSimpArgs false
namespace Go.Proofs.YtlcgclmobfdbcaaGreat.Cl
open Go
theorem NewSS.pushCX {n:Nat} {g g':H} {s:Sl} {ls:List (List Int)} {P:Nat→Prop} (r0:NewSS n g s ls) (c:Chg P g g') (hn:∀i,n≤i→i<g.length→¬P i) {v:Sl} {l:List Int} (ov:Ow g' v 1 (ic l)) (fv:Fr g.length v) (hng:n≤g.length) (hl:(ls.length:Int)+1≤lim) {K:Sl→H→Prop}
  (hk:∀s' h',NewSS n h' s' (ls++[l])→But s.o g' h'→(∀o,s.o=some o→s'.o=some o)→K s' h'):newS 1 1 [.sl v] g' fun t h1=>Cl.app s t 1 h1 K:=by
 refine zj (by rfl) fun t h1 ot tl to e1=>?_
 have x1:Ext g' h1:=by rw [e1];exact Ext.app _ _
 have c1:Chg P g h1:=c.trans (x1.chg P)
 have r1:=r0.chg c1 hn
 have cl:=c.1
 have xl:=x1.len
 obtain ⟨vs,a1,a2,a3,a4,a5,a6⟩:=r0
 have hs0:∀o,s.o=some o→o<g.length:=fun o e=>a2.lt e
 have own1:=a2.chg c1 fun i e=>hn i (a3 i e) (a2.lt e)
 refine r1.app (ov.ext x1) (fv.le hng) (fun o e=>⟨fun e2=>?_,fun us hu w hw e2=>?_⟩) ot.rd hl (by omega) fun s' h' n' b k1 _=>hk s' h' n' ((x1.but _).trans b) k1
 ·have:=fv o e;have:=hs0 o e2;omega
 ·have hq:us=vs:=by
   have a:=hu.rd.sread (by omega)
   have b:=own1.rd.sread (by omega)
   rw [a] at b
   have:us.map AVal.sl=vs.map AVal.sl:=Option.some.inj b
   exact List.map_inj_right (fun a b e=>by simpa using e) |>.1 this
  subst hq
  obtain ⟨i,hi⟩:=List.getElem?_of_mem hw
  obtain ⟨l',hl'⟩:=Yl a1 hi
  have:=(a4 i w l' hi hl').1.lt e2
  have:=fv o e
  omega
section
variable {h:H} {o:Nat}
theorem zqN {g:H} {s:Sl} {l:List Int} {x:Int} (r:Ow g s 1 (ic l)) (hl:(l.length:Int)+1≤lim) {K:Sl→H→Prop}
  (hk:∀s' h',Ow h' s' 1 (ic (l++[x]))→But s.o g h'→(∀o,s'.o=some o→s.o=some o∨g.length≤o)→g.length≤h'.length→K s' h'):newS 1 1 [.int .i64 x] g fun t h1=>app s t 1 h1 K:=
 zIo r (by rw [vm];exact hl) fun s' h' o b f l=>hk s' h' (by rw [qS];exact o) b f l
def RdSF (n:Nat) (h:H) (s:Sl) (ls:List (List Int)):Prop:=∃vs:List Sl,vs.length=ls.length∧Rd h s 1 (vs.map .sl)∧Fr n s∧∀(i:Nat) v l,vs[i]? = some v→ls[i]? = some l→Rd h v 1 (ic l)∧Fr n v
theorem RdSF.rd {n:Nat} {s:Sl} {ls:List (List Int)} (r:RdSF n h s ls):RdSS h s ls:=by
 obtain ⟨vs,a,b,_,d⟩:=r
 exact ⟨vs,a,b,fun i v l x y=>(d i v l x y).1⟩
theorem RdSF.le {n m:Nat} {s:Sl} {ls:List (List Int)} (r:RdSF n h s ls) (hm:m≤n):RdSF m h s ls:=by
 obtain ⟨vs,a,b,c,d⟩:=r
 exact ⟨vs,a,b,c.le hm,fun i v l x y=>⟨(d i v l x y).1,(d i v l x y).2.le hm⟩⟩
theorem RdSF.chg {n:Nat} {h':H} {s:Sl} {ls:List (List Int)} {P:Nat→Prop} (r:RdSF n h s ls) (c:Chg P h h') (hP:∀i,n≤i→¬P i):RdSF n h' s ls:=by
 obtain ⟨vs,a,b,f,d⟩:=r
 exact ⟨vs,a,b.chg c fun i e=>hP i (f i e),f,fun i v l x y=>⟨(d i v l x y).1.chg c fun k e=>hP k ((d i v l x y).2 k e),(d i v l x y).2⟩⟩
theorem NewSS.sf {n:Nat} {s:Sl} {ls:List (List Int)} (r:NewSS n h s ls):RdSF n h s ls:=by
 obtain ⟨vs,a,b,f,d,_⟩:=r
 exact ⟨vs,a,b.rd,f,fun i v l x y=>⟨(d i v l x y).1.rd,(d i v l x y).2⟩⟩
def zAQ (h:H) (o:Nat) (w:Sl) (h':H):Prop:=∃rows,RdSF h.length h' w rows∧rows.length≤100∧(∀l∈rows,l.length≤100)∧Src h' o∧Chg (fun i=>i=o) h h'
def Bel (n:Nat) (rows:List (List Int)):Prop:=∀l∈rows,∀x∈l,0≤x∧x<(n:Int)
theorem zpT (r:Src h o) {u:Sl} {c:Int} {ts:List Tile} (ru:Rd h u 4 (tcs ts)) (fu:∀i,u.o=some i→i≠o) (h1n:1≤ts.length) (hn:ts.length≤1000):callS SP zrU [.ptr ⟨some o,3,0⟩,.agg (SetC c u)] h (zAQ h o):=by
 have hlt:=r.lt
 have hul:=ru.tlen
 apply zzO
 unfold Qc
 refine zk fun h1 a1 x1 n1=>?_
 have r1:=r.ext x1
 refine (zH r1 4).to ?_
 rintro A h2 ⟨hA,r2,b2,l2⟩
 have hA1:=hA.1
 have hA2:=hA.2.1 (by omega)
 refine (zH r2 4).to ?_
 rintro B h3 ⟨hB,r3,b3,l3⟩
 have hB1:=hB.1
 have hB2:=hB.2.1 (by omega)
 have c13:Chg (fun i=>i=o∨h1.length≤i) h1 h3:=(r1.self b2).trans (r2.self b3)
 refine zj (by rfl) fun s h4 os ls so e4=>?_
 have x4:Ext h3 h4:=by rw [e4];exact Ext.app _ _
 have n4:h4.length=h3.length+1:=by rw [e4];simp
 have c14:=c13.trans (x4.chg _)
 have acc:∀{g:H},Chg (fun i=>i=o∨h1.length≤i) h1 g→Obj g h.length (SetC c u)∧Rd g u 4 (tcs ts):=fun {g} cg=>⟨a1.chg cg (by omega),(ru.ext x1).keep (P:=fun i=>i=o) cg fun i e=>fu i e⟩
 have up:∀{g:H},Chg (fun i=>i=o∨h1.length≤i) h1 g→Chg (fun i=>i=o) h g:=fun {g} cg=>((x1.chg (fun i=>i=o)).trans (Chg.refl _ _)).trans ⟨cg.1,fun i hi hno=>by
  by_cases hh:i<h1.length
  ·exact cg.2 i hi fun e=>by omega
  ·omega⟩
 have a4:=(acc c14).1
 refine zh (a4.ldS rfl rfl ?_)
 refine ⟨((acc c13).1.cellE rfl).trans (a4.cellE rfl).symm,?_⟩
 rw [zf (n:=1+A) (by omega) (by omega),zf (n:=1+B) (by omega) (by omega)]
 -- the end
 have fin:∀{w:Sl} {g:H} {rows:List (List Int)},NewSS h1.length g w rows→1≤rows.length→rows.length≤10→(∀l∈rows,1≤l.length∧l.length≤10)→Src g o→Chg (fun i=>i=o∨h1.length≤i) h1 g→zkR SP (fun v h'=>∃r,v = .sl r∧zAQ h o r h') ⟨some o,3,0⟩ w (u.len:Int) g:=fun {w g rows} nw hr1 hr2 hrl rg cg=>by
  unfold zkR
  have hcg:=cg.1
  refine (zH rg 24).to ?_
  rintro z g1 ⟨_,rg1,b1,l1⟩
  have c1:=cg.trans (rg.self b1)
  have nw1:=nw.chg (b1.chg (P:=fun i=>i=o) fun i e=>(Option.some.inj e).symm) fun i hi hi2=>by omega
  have hlast:∀l∈rows,l.length≤100:=fun l hl=>by have:=hrl l hl;omega
  refine zp (fun _=>?_) (fun _=>?_)
  ·refine zj (by rfl) fun v g2 ov lv vo e2=>?_
   have y2:Ext g1 g2:=by rw [e2];exact Ext.app _ _
   refine nw1.pushCX (y2.chg fun _=>False) (fun _ _ _ f=>f) (l:=[]) ov (fun i e=>by rw [vo] at e;cases e;exact Nat.le_refl _) (by omega) (by unfold lim;omega) fun w' g3 nw3 b3' k3=>?_
   refine ⟨w',rfl,_,nw3.sf.le (by omega),by rw [List.length_append,List.length_singleton];omega,fun l hl=>?_,(rg1.ext y2).but b3' fun i e=>?_,up ((c1.trans (y2.chg _)).trans (b3'.chg fun i e=>?_))⟩
   ·rcases List.mem_append.1 hl with hl | hl
    ·exact hlast l hl
    ·rw [List.mem_singleton] at hl;subst hl;simp
   ·obtain ⟨_,_,_,f,_⟩:=nw1;have:=f i e;omega
   ·obtain ⟨_,_,_,f,_⟩:=nw1;exact .inr (f i e)
  refine zp (fun _=>?_) (fun _=>?_)
  ·obtain ⟨vs,e1,e2,e3,e4,e5,e6⟩:=nw1
   have hv0:vs[0]? = some vs[0]:=List.getElem?_eq_getElem (by omega)
   have hr0:rows[0]? = some rows[0]:=List.getElem?_eq_getElem (by omega)
   have hwl:w.len=vs.length:=by have:=e2.len;simp at this;omega
   refine e2.rd.ldS (by omega) (by omega) fun v hv'=>?_
   rw [show (0:Int).toNat=0 from rfl,hv0] at hv'
   have hve:=Option.some.inj hv'
   subst hve
   have hl0:=hrl rows[0] (List.getElem_mem _)
   refine vF rg1 (l:=[-1,(u.len:Int)]) rfl rfl (by simp) fun y g2 hy rg2 c2=>?_
   have rowC:∀(i:Nat) v l,vs[i]? = some v→rows[i]? = some l→Ow g2 v 1 (ic l)∧Fr h1.length v:=fun i v l a b=>by
    obtain ⟨p,q⟩:=e4 i v l a b
    exact ⟨p.chg c2 fun i e=>by have:=q i e;omega,q⟩
   obtain ⟨r0,f0⟩:=rowC 0 _ _ hv0 hr0
   have e4':∀{y:Int} (i:Nat) v l,vs[i]? = some v→(rows.set 0 (rows[0].set (0:Int).toNat y))[i]? = some l→Fr h1.length v:=fun {y} i v l a b=>by
    have hi:i<rows.length:=by have:=(List.getElem?_eq_some_iff.1 a).1;omega
    exact (e4 i v rows[i] a (List.getElem?_eq_getElem hi)).2
   have hvl:=r0.rd.ilen
   refine r0.stI (by omega) (by omega) _ fun g3 o3 b3' l3=>?_
   refine ⟨w,rfl,rows.set 0 (rows[0].set (0:Int).toNat y),⟨vs,by simpa using e1,(e2.chg c2 fun i e=>by have:=e3 i e;omega).rd.but b3' ?_,e3.le (by omega),fun i v l a b=>⟨?_,(e4' i v l a b).le (by omega)⟩⟩,by rw [List.length_set];omega,fun l hl=>?_,rg2.but b3' fun i e=>by have:=f0 i e;omega,up ((c1.trans (c2.to fun i _ e=> .inl e)).trans (b3'.chg fun i e=> .inr (f0 i e)))⟩
   ·cases hq:vs[0].o with
    | none=>exact .inr rfl
    | some i=>exact .inl fun e=>e6 0 _ hv0 i hq e.symm
   ·rw [List.getElem?_set] at b
    by_cases hi:0=i
    ·subst hi
     rw [if_pos rfl,if_pos (by omega)] at b
     rw [hv0] at a
     rw [←Option.some.inj a,←Option.some.inj b]
     exact o3.rd
    ·rw [if_neg hi] at b
     refine (rowC i v l a b).1.rd.but b3' ?_
     cases hq:vs[0].o with
     | none=>exact .inr rfl
     | some k=>exact .inl fun e=>e5 0 i _ _ hi hv0 a k hq e.symm
   ·rcases List.mem_or_eq_of_mem_set hl with hl | hl
    ·exact hlast l hl
    ·subst hl;rw [List.length_set];omega
  refine zp (fun _=>?_) (fun _=>?_)
  ·refine zj (by rfl) fun w' g2 ow2 lw wo e=>?_
   have x:Ext g1 g2:=by rw [e];exact Ext.app _ _
   exact ⟨w',rfl,[],⟨[],rfl,ow2.rd,fun i ei=>(by rw [wo] at ei;have:=Option.some.inj ei;omega),fun i v l a=>(by simp at a)⟩,by simp,fun l hl=>(by cases hl),rg1.ext x,up (c1.trans (x.chg _))⟩
  ·exact ⟨w,rfl,rows,nw1.sf.le (by omega),by omega,hlast,rg1,up c1⟩
 refine zpF _ _ _ _ _ _ _ (fun w i g=>∃(k:Nat) (rows:List (List Int)),i=k∧(k:Int)≤1+A∧rows.length=k∧NewSS h1.length g w rows∧(∀l∈rows,(l.length:Int)=1+B)∧Bel ts.length rows∧Src g o∧Chg (fun i=>i=o∨h1.length≤i) h1 g) (fun _ i _=>(1+A-i).toNat) ?_ _ _
  ⟨0,[],rfl,by omega,rfl,NewSS.mk0 os (fun i e=>by rw [so] at e;have:=Option.some.inj e;have:=c13.1;omega),fun l hl=>(by cases hl),fun l hl=>(by cases hl),r3.ext x4,c14⟩
 rintro X w _ g ⟨k,rows,rfl,hk,hrl,nw,hrw,hbel,rg,cg⟩ hX
 have hcg:=cg.1
 unfold zkQ
 refine zc (fun hi=>?_) (fun hi=>fin nw (by omega) (by omega) (fun l hl=>by have:=hrw l hl;omega) rg cg)
 refine zj (by rfl) fun s2 g1 os2 ls2 so2 e2=>?_
 have y1:Ext g g1:=by rw [e2];exact Ext.app _ _
 have m1:g1.length=g.length+1:=by rw [e2];simp
 refine zpE _ _ X _ _ _ _ _ _ _ (fun s i g'=>∃(x:Nat) (row:List Int),i=x∧(x:Int)≤1+B∧row.length=x∧Ow g' s 1 (ic row)∧s.o.isSome=true∧Fr g.length s∧(∀y∈row,0≤y∧y<(ts.length:Int))∧Src g' o∧Chg (fun i=>i=o∨g.length≤i) g g') (fun _ i _=>(1+B-i).toNat) ?_ _ _
  ⟨0,[],rfl,by omega,rfl,os2,by rw [so2];rfl,fun i e=>(by rw [so2] at e;cases e;exact Nat.le_refl _),fun y hy=>(by cases hy),rg.ext y1,y1.chg _⟩
 rintro X2 s _ g2 ⟨x,row,rfl,hx,hxl,ow,_,fs,hrow,rg2,cg2⟩ hX2
 have hcg2:=cg2.1
 unfold zkP
 have cg2':Chg (fun i=>i=o∨h1.length≤i) h1 g2:=cg.trans (cg2.to fun i _ e=>e.imp id fun e=>by omega)
 refine zc (fun hi2=>?_) (fun hi2=>?_)
 rotate_left
 ·unfold zzT
  refine nw.pushCX cg2 (fun i hi hi2 e=>by omega) ow fs hcg (by unfold lim;omega) fun w' g3 nw3 b3' _=>?_
  unfold zzU
  rw [zf (n:=(k:Int)+1) (by omega) (by omega)]
  have fw:∀i,w.o=some i→h1.length≤i:=by obtain ⟨_,_,_,f,_⟩:=nw;exact f
  refine hX _ _ _ ⟨k+1,_,by push_cast;rfl,by omega,by rw [List.length_append,List.length_singleton];omega,nw3,fun l hl=>?_,fun l hl=>?_,rg2.but b3' fun i e=>by have:=fw i e;omega,cg2'.trans (b3'.chg fun i e=> .inr (fw i e))⟩ (by omega)
  ·rcases List.mem_append.1 hl with hl | hl
   ·exact hrw l hl
   ·rw [List.mem_singleton] at hl;subst hl;omega
  ·rcases List.mem_append.1 hl with hl | hl
   ·exact hbel l hl
   ·rw [List.mem_singleton] at hl;subst hl;exact hrow
 refine (zH rg2 _).to ?_
 rintro own g3 ⟨hown,rg3,b3',l3'⟩
 have ho1:=hown.1
 have ho2:=hown.2.1 (by omega)
 have cg3:=cg2.trans (rg2.self b3')
 have cg3':=cg2'.trans (rg2.self b3')
 have ow3:=ow.but b3' (.inl fun e=>by have:=fs _ e.symm;omega)
 have nw3:=nw.chg cg3 fun i hi hi2 e=>by omega
 have aR:=acc cg3'
 have push:∀{y:Int},0≤y→y<(ts.length:Int)→Zr SP (fun v h'=>∃r,v = .sl r∧zAQ h o r h') X X2 ⟨some o,3,0⟩ ⟨some h.length,2,0⟩ (1+A) (1+B) w (u.len:Int) (k:Int) s (x:Int) y g3:=fun {y} hy0 hy1=>by
  unfold Zr
  refine zqN ow3 (by unfold lim;omega) fun s' g4 ow4 b4 hs4 l4=>?_
  unfold zzS
  rw [zf (n:=(x:Int)+1) (by omega) (by omega)]
  refine hX2 _ _ _ ⟨x+1,_,by push_cast;rfl,by omega,by rw [List.length_append,List.length_singleton];omega,ow4,?_,fs.push (h:=g3) (by omega) hs4,fun z hz=>?_,rg3.but b4 fun i e=>by have:=fs i e;omega,cg3.trans (b4.chg fun i e=> .inr (fs i e))⟩ (by omega)
  ·have hl4:=ow4.rd.ilen
   rw [List.length_append,List.length_singleton] at hl4
   obtain ⟨_,q⟩ | ⟨i,q,_⟩:=ow4.at_
   ·omega
   ·rw [q];rfl
  ·rcases List.mem_append.1 hz with hz | hz
   ·exact hrow z hz
   ·rw [List.mem_singleton] at hz;subst hz;exact ⟨hy0,hy1⟩
 refine zpD _ _ X X2 _ _ _ _ _ _ _ _ _ (fun y i g'=>(0≤y∧y<(ts.length:Int))∧(0≤i∧i≤(ts.length:Int))∧g3=g') (fun _ i _=>((ts.length:Int)-i).toNat) ?_ _ _ ⟨⟨ho1,by omega⟩,⟨by omega,by omega⟩,rfl⟩
 rintro X4 own z _ ⟨⟨ho1,ho2⟩,hz,rfl⟩ hX4
 unfold zkO
 refine zc (fun hz2=>⟨by omega,?_⟩) (fun _=>push ho1 ho2)
 have hw1:w64 (own+z)=own+z:=zf (by omega) (by omega)
 have hm0:0≤Int.tmod (w64 (own+z)) (u.len:Int):=by rw [hw1];exact Int.tmod_nonneg _ (by omega)
 have hm1:Int.tmod (w64 (own+z)) (u.len:Int)<ts.length:=by
  rw [hw1]
  have:=Int.tmod_lt_of_pos (own+z) (show (0:Int)<u.len by omega)
  omega
 have again:X4 (vS ⟨some o,3,0⟩ ⟨some h.length,2,0⟩ (1+A) (1+B) w (u.len:Int) (k:Int) s (x:Int) own (w64 (z+1))) g3:=by
  rw [zf (n:=z+1) (by omega) (by omega)]
  exact hX4 _ _ _ ⟨⟨ho1,ho2⟩,⟨by omega,by omega⟩,rfl⟩ (by omega)
 have above:0<k→∀{K:Int→Prop},(∀a,0≤a→a<(ts.length:Int)→K a)→ixS w 1 (w64 ((k:Int)-1)) fun p=>ldS p g3 fun s2=>ixS s2 1 (x:Int) fun p=>ldI .i64 p g3 fun n=>K n:=fun hk0 {K} hK=>by
  rw [zf (n:=(k:Int)-1) (by omega) (by omega)]
  refine nw3.rd.ld (by omega) (by omega) fun v l hv rv lv=>?_
  have hm:=List.mem_of_getElem? hv
  have hlr:=hrw l hm
  exact rv.ldI (by omega) (by omega) fun y hy=>by
   have:=hbel l hm y (List.mem_of_getElem? hy)
   exact hK y this.1 this.2
 refine zp (fun hx0=>?_) (fun hx0=>?_)
 ·refine zp (fun _=>push hm0 hm1) (fun hk0=>?_)
  refine zh (aR.1.ldS rfl rfl ?_)
  refine above (by omega) fun n4 p0 p1=>?_
  refine aR.2.sideG p0 p1 (by omega) (by omega) ?_
  refine zh (aR.1.ldS rfl rfl ?_)
  refine aR.2.sideG hm0 hm1 (by omega) (by omega) ?_
  exact zp (fun _=>push hm0 hm1) (fun _=>again)
 ·refine zh (aR.1.ldS rfl rfl ?_)
  rw [zf (n:=(x:Int)-1) (by omega) (by omega)]
  have hsl:=ow3.rd.ilen
  refine ow3.rd.ldI (by omega) (by omega) fun y hy=>?_
  have hyb:=hrow y (List.mem_of_getElem? hy)
  refine aR.2.sideG hyb.1 hyb.2 (by omega) (by omega) ?_
  refine zh (aR.1.ldS rfl rfl ?_)
  refine aR.2.sideG hm0 hm1 (by omega) (by omega) ?_
  refine zp (fun _=>?_) (fun _=>again)
  refine zp (fun _=>push hm0 hm1) (fun hk0=>?_)
  refine zh (aR.1.ldS rfl rfl ?_)
  refine above (by omega) fun n4 p0 p1=>?_
  refine aR.2.sideG p0 p1 (by omega) (by omega) ?_
  refine zh (aR.1.ldS rfl rfl ?_)
  refine aR.2.sideG hm0 hm1 (by omega) (by omega) ?_
  exact zp (fun _=>push hm0 hm1) (fun _=>again)
end
end Go.Proofs.YtlcgclmobfdbcaaGreat.Cl
set_option linter.unusedVariables false
set_option linter.unusedSimpArgs false
namespace Go.Proofs.YtlcgclmobfdbcaaGreat.Cl
open Go
def CodeB (h:H) (s:Sl) (q:List Int):Prop:=Rd h s 1 (bc q)∧q.length≤1000000∧∀b∈q,0≤b∧b<256
section
variable {h:H} {o:Nat}
theorem CodeB.ext {h h':H} {s:Sl} {q:List Int} (r:CodeB h s q) (x:Ext h h'):CodeB h' s q:=⟨r.1.ext x,r.2⟩
theorem CodeB.from {s:Sl} {q:List Int} (r:CodeB h s q):callP SP zjn [.sl s] h fun p h'=>p=⟨some h.length,3,0⟩∧Src h' h.length∧Ext h h':=by
 refine zMd r.1 ?_ r.2.1 r.2.2
 obtain hl | ⟨x,y,e⟩:=r.1.at_
 ·exact .inl hl
 ·refine .inr fun i hi=>?_
  obtain ⟨j,xs,hj,hc,_,_⟩:=zL e
  rw [hi] at hj
  rw [Option.some.inj hj]
  exact yC hc
theorem zEO {u:Sl} {c:Int} {K:Pt→List AVal→H→Prop} (hk:∀h',Obj h' h.length (SetC c u)→Ext h h'→h'.length=h.length+1→K ⟨some h.length,2,0⟩ (SetC c u) h'):
  newO [.int .i64 0,.sl Sl.nil] h fun p h1=>stN p 2 (SetC c u) h1 fun h2=>ldA p 2 h2 fun cs=>K p cs h2:=by
 refine zo fun h1 o1 x1 n1=>?_
 refine o1.stA fun h2 o2 b2 n2=>?_
 exact o2.ldA rfl (hk h2 o2 (x1.but_ b2 (zi (Nat.le_refl _))) (by omega))
theorem vG {u:Sl} {c:Int} {K:Pt→H→Prop} (hk:∀h',Obj h' h.length (SetC c u)→Ext h h'→h'.length=h.length+1→K ⟨some h.length,2,0⟩ h'):
  newO [.int .i64 0,.sl Sl.nil] h fun p h1=>stN p 2 (SetC c u) h1 fun h2=>K p h2:=by
 refine zo fun h1 o1 x1 n1=>?_
 refine o1.stA fun h2 o2 b2 n2=>?_
 exact hk h2 o2 (x1.but_ b2 (zi (Nat.le_refl _))) (by omega)
end
end Go.Proofs.YtlcgclmobfdbcaaGreat.Cl
