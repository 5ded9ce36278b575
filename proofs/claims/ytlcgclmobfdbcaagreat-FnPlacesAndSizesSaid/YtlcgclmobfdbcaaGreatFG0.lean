/- Typed forms of functions, and their links. No claim is stated here. -/
import Derived.Test.YtlcgclmobfdbcaaGreatFT
set_option linter.unusedVariables false
namespace Go.Proofs.YtlcgclmobfdbcaaGreat.Cl
open Go
def wj:Nat→List Nat:=fun i=>bif i==4 then [1,2,3,7,8,9,10,11,12,13,14,15] else bif i==2 then [1,2,3,7,8,9,10,11,12,13,14] else bif i==0 then [1,2,3,7,8,9,10,11] else []
def zjr (S:SatT) (K:KT):Kont:=kSeq (cwp S tab wj [] (sq Tryz.f91 5 31) (kFun tab (Tryz.f91).results.toList K)) (kFun tab (Tryz.f91).results.toList K)
def zhx (s1_ s2_:Sl) (p3_:Pt) (s7_:Sl) (i8:Int) (s9_ s10_:Sl) (i11:Int):Frame:=(U :: .sl s1_ :: .sl s2_ :: .ptr p3_::U::U::U :: .sl s7_ :: .int .i64 i8 :: .sl s9_ :: .sl s10_ :: .int .i64 i11::uu 87 [])
def zFd (S:SatT) (K:KT):(XT)→XT:=fun X fr h=>cwp S tab wj (wj 0) (sq Tryz.f91 8 244) (kSeq (fun fr h=>X (mask (wj 0) fr) h) (kBlk 0 (zjr S K))) fr h
def zFg (S:SatT) (K:KT) (s1_ s2_:Sl) (p3_:Pt) (s7_:Sl) (i8:Int) (s9_ s10_:Sl) (i11:Int) (h:H):Prop:=zs (zFd S K) (zhx s1_ s2_ p3_ s7_ i8 s9_ s10_ i11) h
def zsu (S:SatT) (K:KT) (X0:XT):Kont:=kSeq (cwp S tab wj (wj 0) (sq Tryz.f91 10 979) (kSeq (fun fr h=>X0 (mask (wj 0) fr) h) (kBlk 0 (zjr S K)))) (kSeq (fun fr h=>X0 (mask (wj 0) fr) h) (kBlk 0 (zjr S K)))
def zcY (S:SatT) (K:KT) (X0:XT):Kont:=kSeq (cwp S tab wj (wj 1) (sq Tryz.f91 13 7827) (kBlk 1 (zsu S K X0))) (kBlk 1 (zsu S K X0))
def zbw (s1_ s2_:Sl) (p3_:Pt) (s7_:Sl) (i8:Int) (s9_ s10_:Sl) (i11:Int) (s12_:Sl) (i13 i14:Int):Frame:=(U :: .sl s1_ :: .sl s2_ :: .ptr p3_::U::U::U :: .sl s7_ :: .int .i64 i8 :: .sl s9_ :: .sl s10_ :: .int .i64 i11 :: .sl s12_ :: .int .i64 i13 :: .int .i64 i14::uu 84 [])
def zFc (S:SatT) (K:KT) (X0:XT):(XT)→XT:=fun X fr h=>cwp S tab wj (wj 2) (sq Tryz.f91 16 62612) (kSeq (fun fr h=>X (mask (wj 2) fr) h) (kBlk 2 (zcY S K X0))) fr h
def zFf (S:SatT) (K:KT) (X0:XT) (s1_ s2_:Sl) (p3_:Pt) (s7_:Sl) (i8:Int) (s9_ s10_:Sl) (i11:Int) (s12_:Sl) (i13 i14:Int) (h:H):Prop:=zs (zFc S K X0) (zbw s1_ s2_ p3_ s7_ i8 s9_ s10_ i11 s12_ i13 i14) h
def zCo (S:SatT) (K:KT) (X0 X2:XT):Kont:=kSeq (cwp S tab wj (wj 2) (sq Tryz.f91 18 250451) (kSeq (fun fr h=>X2 (mask (wj 2) fr) h) (kBlk 2 (zcY S K X0)))) (kSeq (fun fr h=>X2 (mask (wj 2) fr) h) (kBlk 2 (zcY S K X0)))
def Wn (s1_ s2_:Sl) (p3_:Pt) (s7_:Sl) (i8:Int) (s9_ s10_:Sl) (i11:Int) (s12_:Sl) (i13 i14 i15:Int):Frame:=(U :: .sl s1_ :: .sl s2_ :: .ptr p3_::U::U::U :: .sl s7_ :: .int .i64 i8 :: .sl s9_ :: .sl s10_ :: .int .i64 i11 :: .sl s12_ :: .int .i64 i13 :: .int .i64 i14 :: .int .i64 i15::uu 83 [])
def zFb (S:SatT) (K:KT) (X0 X2:XT):(XT)→XT:=fun X fr h=>cwp S tab wj (wj 4) (sq Tryz.f91 22 4007204) (kSeq (fun fr h=>X (mask (wj 4) fr) h) (kBlk 4 (kBlk 3 (zCo S K X0 X2)))) fr h
def zFe (S:SatT) (K:KT) (X0 X2:XT) (s1_ s2_:Sl) (p3_:Pt) (s7_:Sl) (i8:Int) (s9_ s10_:Sl) (i11:Int) (s12_:Sl) (i13 i14 i15:Int) (h:H):Prop:=zs (zFb S K X0 X2) (Wn s1_ s2_ p3_ s7_ i8 s9_ s10_ i11 s12_ i13 i14 i15) h
def zFh (S:SatT) (K:KT) (X0 X2:XT) (s1_ s2_:Sl) (p3_:Pt) (s7_:Sl) (i8:Int) (s9_ s10_:Sl) (i11:Int) (s12_:Sl) (i13 i14:Int) (h:H):Prop:=
 X2 (zbw s1_ s2_ p3_ s7_ i8 s9_ s10_ i11 s12_ i13 (w64 (i14+(1)))) h
def zsy (S:SatT) (K:KT) (X0 X2:XT) (s1_ s2_:Sl) (p3_:Pt) (s7_:Sl) (i8:Int) (s9_ s10_:Sl) (i11:Int) (s12_:Sl) (i13 i14:Int) (h:H):Prop:=
 zFh S K X0 X2 s1_ s2_ p3_ s7_ i8 s9_ s10_ i11 s12_ i13 i14 h
def zsv (S:SatT) (K:KT) (X0 X2 X4:XT) (s1_ s2_:Sl) (p3_:Pt) (s7_:Sl) (i8:Int) (s9_ s10_:Sl) (i11:Int) (s12_:Sl) (i13 i14 i15:Int) (h:H):Prop:=
 isPt p3_ (
 ldS (Pt.add p3_ 1) h fun s0=>
 bif (decide (i15<(s0.len:Int))) then
 ixS s9_ 1 i14 fun p1=>
 ldB p1 h fun b2=>
 bif b2 then
 ldA p3_ 2 h fun cs3=>
 callB S zrQ [.agg cs3,.sl s1_,.sl s2_,.int .i64 i14,.int .i64 i11,.int .i64 i15] h fun b5 h4=>
 bif (!b5) then
 X4 (Wn s1_ s2_ p3_ s7_ i8 s9_ s10_ i11 s12_ i13 i14 (w64 (i15+(1)))) h4
 else
 ldA p3_ 2 h4 fun cs6=>
 callI S .i64 zrP [.agg cs6,.int .i64 i8,.int .i64 i14,.int .i64 i11,.int .i64 i15] h4 fun n8 h7=>
 ixS s7_ 1 (w64 (i11+(1))) fun p9=>
 ldS p9 h7 fun s10=>
 ixS s10 1 n8 fun p11=>
 ldI .i64 p11 h7 fun n12=>
 bif (decide (n12>(0))) then
 ixS s12_ 1 n8 fun p13=>
 st1 p13 (.bool true) h7 fun h14=>
 nn (IntKind.wrap .u64 (i15)) (
 X4 (Wn s1_ s2_ p3_ s7_ i8 s9_ s10_ i11 s12_ (yj .or .i64 i13 (shlI .i64 (1) (IntKind.wrap .u64 (i15)))) i14 (w64 (i15+(1)))) h14)
 else
 X4 (Wn s1_ s2_ p3_ s7_ i8 s9_ s10_ i11 s12_ i13 i14 (w64 (i15+(1)))) h7
 else
 zsy S K X0 X2 s1_ s2_ p3_ s7_ i8 s9_ s10_ i11 s12_ i13 i14 h
 else
 zsy S K X0 X2 s1_ s2_ p3_ s7_ i8 s9_ s10_ i11 s12_ i13 i14 h)
theorem zsr (S:SatT) (K:KT) (X0 X2 X4:XT) (s1_ s2_:Sl) (p3_:Pt) (s7_:Sl) (i8:Int) (s9_ s10_:Sl) (i11:Int) (s12_:Sl) (i13 i14 i15:Int) (h:H):zFb S K X0 X2 X4 (Wn s1_ s2_ p3_ s7_ i8 s9_ s10_ i11 s12_ i13 i14 i15) h=zsv S K X0 X2 X4 s1_ s2_ p3_ s7_ i8 s9_ s10_ i11 s12_ i13 i14 i15 h:=by kernel_rfl
theorem zso (S:SatT) (K:KT) (X0 X2:XT) (s1_ s2_:Sl) (p3_:Pt) (s7_:Sl) (i8:Int) (s9_ s10_:Sl) (i11:Int) (s12_:Sl) (i14:Int) (I_:Int→Int→H→Prop) (m_:Int→Int→H→Nat)
  (hs:∀(X4:XT) (i13 i15:Int) (h:H),I_ i13 i15 h→(∀(i13' i15':Int) (h':H),I_ i13' i15' h'→m_ i13' i15' h'<m_ i13 i15 h→X4 (Wn s1_ s2_ p3_ s7_ i8 s9_ s10_ i11 s12_ i13' i14 i15') h')→zsv S K X0 X2 X4 s1_ s2_ p3_ s7_ i8 s9_ s10_ i11 s12_ i13 i14 i15 h) (i13 i15:Int) {h:H} (h0:I_ i13 i15 h):zFe S K X0 X2 s1_ s2_ p3_ s7_ i8 s9_ s10_ i11 s12_ i13 i14 i15 h:=
 zg (σ :=(Int)×(Int)) (fun s_=>Wn s1_ s2_ p3_ s7_ i8 s9_ s10_ i11 s12_ (s_.1) i14 (s_.2)) (fun s_ h=>I_ (s_.1) (s_.2) h) (fun s_ h=>m_ (s_.1) (s_.2) h)
  (fun X s_ h hi hx=>(zsr S K X0 X2 X s1_ s2_ p3_ s7_ i8 s9_ s10_ i11 s12_ (s_.1) i14 (s_.2) h).mpr (hs X (s_.1) (s_.2) h hi fun i13' i15' h' hi' hm'=>hx (i13',i15') h' hi' hm')) (i13,i15) h0
def zFj (S:SatT) (K:KT) (X0:XT) (s1_ s2_:Sl) (p3_:Pt) (s7_:Sl) (i8:Int) (s9_ s10_:Sl) (i11:Int) (h:H):Prop:=
 X0 (zhx s1_ s2_ p3_ s7_ i8 s9_ s10_ (w64 (i11+(1)))) h
def zFi (S:SatT) (K:KT) (X0:XT) (s1_ s2_:Sl) (p3_:Pt) (s7_:Sl) (i8:Int) (s10_:Sl) (i11:Int) (s12_:Sl) (i13:Int) (h:H):Prop:=
 newS 1 1 [.int .i64 i13] h fun s0 h1=>
 app s10_ s0 1 h1 fun s2 h3=>
 zFj S K X0 s1_ s2_ p3_ s7_ i8 s12_ s2 i11 h3
def zsw (S:SatT) (K:KT) (X0 X2:XT) (s1_ s2_:Sl) (p3_:Pt) (s7_:Sl) (i8:Int) (s9_ s10_:Sl) (i11:Int) (s12_:Sl) (i13 i14:Int) (h:H):Prop:=
 bif (decide (i14<(s9_.len:Int))) then
 zFe S K X0 X2 s1_ s2_ p3_ s7_ i8 s9_ s10_ i11 s12_ i13 i14 (0) h
 else
 zFi S K X0 s1_ s2_ p3_ s7_ i8 s10_ i11 s12_ i13 h
theorem zss (S:SatT) (K:KT) (X0 X2:XT) (s1_ s2_:Sl) (p3_:Pt) (s7_:Sl) (i8:Int) (s9_ s10_:Sl) (i11:Int) (s12_:Sl) (i13 i14:Int) (h:H):zFc S K X0 X2 (zbw s1_ s2_ p3_ s7_ i8 s9_ s10_ i11 s12_ i13 i14) h=zsw S K X0 X2 s1_ s2_ p3_ s7_ i8 s9_ s10_ i11 s12_ i13 i14 h:=by kernel_rfl
theorem zsp (S:SatT) (K:KT) (X0:XT) (s1_ s2_:Sl) (p3_:Pt) (s7_:Sl) (i8:Int) (s9_ s10_:Sl) (i11:Int) (s12_:Sl) (I_:Int→Int→H→Prop) (m_:Int→Int→H→Nat)
  (hs:∀(X2:XT) (i13 i14:Int) (h:H),I_ i13 i14 h→(∀(i13' i14':Int) (h':H),I_ i13' i14' h'→m_ i13' i14' h'<m_ i13 i14 h→X2 (zbw s1_ s2_ p3_ s7_ i8 s9_ s10_ i11 s12_ i13' i14') h')→zsw S K X0 X2 s1_ s2_ p3_ s7_ i8 s9_ s10_ i11 s12_ i13 i14 h) (i13 i14:Int) {h:H} (h0:I_ i13 i14 h):zFf S K X0 s1_ s2_ p3_ s7_ i8 s9_ s10_ i11 s12_ i13 i14 h:=
 zg (σ :=(Int)×(Int)) (fun s_=>zbw s1_ s2_ p3_ s7_ i8 s9_ s10_ i11 s12_ (s_.1) (s_.2)) (fun s_ h=>I_ (s_.1) (s_.2) h) (fun s_ h=>m_ (s_.1) (s_.2) h)
  (fun X s_ h hi hx=>(zss S K X0 X s1_ s2_ p3_ s7_ i8 s9_ s10_ i11 s12_ (s_.1) (s_.2) h).mpr (hs X (s_.1) (s_.2) h hi fun i13' i14' h' hi' hm'=>hx (i13',i14') h' hi' hm')) (i13,i14) h0
def zFk (S:SatT) (K:KT) (s10_:Sl) (h:H):Prop:=
 K (.sl s10_) h
def zsx (S:SatT) (K:KT) (X0:XT) (s1_ s2_:Sl) (p3_:Pt) (s7_:Sl) (i8:Int) (s9_ s10_:Sl) (i11:Int) (h:H):Prop:=
 bif (decide ((w64 (i11+(1)))<(s7_.len:Int))) then
 mkS (s9_.len:Int) [.bool false] h fun s0 h1=>
 zFf S K X0 s1_ s2_ p3_ s7_ i8 s9_ s10_ i11 s0 (0) (0) h1
 else
 zFk S K s10_ h
theorem zst (S:SatT) (K:KT) (X0:XT) (s1_ s2_:Sl) (p3_:Pt) (s7_:Sl) (i8:Int) (s9_ s10_:Sl) (i11:Int) (h:H):zFd S K X0 (zhx s1_ s2_ p3_ s7_ i8 s9_ s10_ i11) h=zsx S K X0 s1_ s2_ p3_ s7_ i8 s9_ s10_ i11 h:=by kernel_rfl
theorem zsq (S:SatT) (K:KT) (s1_ s2_:Sl) (p3_:Pt) (s7_:Sl) (i8:Int) (I_:Sl→Sl→Int→H→Prop) (m_:Sl→Sl→Int→H→Nat)
  (hs:∀(X0:XT) (s9_ s10_:Sl) (i11:Int) (h:H),I_ s9_ s10_ i11 h→(∀(s9_' s10_':Sl) (i11':Int) (h':H),I_ s9_' s10_' i11' h'→m_ s9_' s10_' i11' h'<m_ s9_ s10_ i11 h→X0 (zhx s1_ s2_ p3_ s7_ i8 s9_' s10_' i11') h')→zsx S K X0 s1_ s2_ p3_ s7_ i8 s9_ s10_ i11 h) (s9_ s10_:Sl) (i11:Int) {h:H} (h0:I_ s9_ s10_ i11 h):zFg S K s1_ s2_ p3_ s7_ i8 s9_ s10_ i11 h:=
 zg (σ :=(Sl)×(Sl)×(Int)) (fun s_=>zhx s1_ s2_ p3_ s7_ i8 (s_.1) (s_.2.1) (s_.2.2)) (fun s_ h=>I_ (s_.1) (s_.2.1) (s_.2.2) h) (fun s_ h=>m_ (s_.1) (s_.2.1) (s_.2.2) h)
  (fun X s_ h hi hx=>(zst S K X s1_ s2_ p3_ s7_ i8 (s_.1) (s_.2.1) (s_.2.2) h).mpr (hs X (s_.1) (s_.2.1) (s_.2.2) h hi fun s9_' s10_' i11' h' hi' hm'=>hx (s9_',s10_',i11') h' hi' hm')) (s9_,s10_,i11) h0
def zcX (S:SatT) (K:KT) (x0:List AVal) (x1 x2:Sl) (h:H):Prop:=
 newK 2 x0 h fun p0 h1=>
 ldA p0 2 h1 fun cs2=>
 callS S zlS [.agg cs2,.sl x1,.sl x2] h1 fun s4 h3=>
 ixS x1 1 (0) fun p5=>
 ldS p5 h3 fun s6=>
(cell h1 p5=cell h3 p5)∧(
 ixS s4 1 (0) fun p7=>
 ldS p7 h3 fun s8=>
 mkS (s8.len:Int) [.bool false] h3 fun s9 h10=>
 newS 0 1 [] h10 fun s11 h12=>
 ixS s9 1 (0) fun p13=>
 st1 p13 (.bool true) h12 fun h14=>
 zFg S K x1 x2 p0 s4 (s6.len:Int) s9 s11 (0) h14)
theorem zcW (S:SatT) (K:KT) (x0:List AVal) (x1 x2:Sl) (h:H):cwp S tab wj [] (za Tryz.f91) (kFun tab Tryz.f91.results.toList K) (fr0 Tryz.f91 [.agg x0,.sl x1,.sl x2]) h=zcX S K x0 x1 x2 h:=by kernel_rfl
theorem zCp (x0:List AVal) (x1 x2:Sl) (h:H) (K:Sl→H→Prop) (hm:zcX (Sat Tryz.prog) (fun v h'=>∃r,v = .sl r∧K r h') x0 x1 x2 h):callS (Sat Tryz.prog) zjm [.agg x0,.sl x1,.sl x2] h K:=by
 have:=Sat.ex tok mixed wj Tryz.func91 (c:=za Tryz.f91) (by kernel_rfl) (zd Tryz.func91 (c:=za Tryz.f91) (by kernel_rfl) (by decide)) ((zcW _ _ x0 x1 x2 h).mpr hm)
 obtain ⟨v,h2,h3,r,rfl,h4⟩:=this;exact ⟨r,h2,h3,h4⟩
def vO:Nat→List Nat:=fun i=>bif i==4 then [1,2,3,9] else bif i==2 then [1,2,3,7,8] else bif i==0 then [1,2,3,7] else []
def zdb (S:SatT) (K:KT):Kont:=kSeq (cwp S tab vO [] (sq Tryz.f90 4 15) (kFun tab (Tryz.f90).results.toList K)) (kFun tab (Tryz.f90).results.toList K)
def zhz (s1_ s2_:Sl) (p3_:Pt) (i7:Int):Frame:=(U :: .sl s1_ :: .sl s2_ :: .ptr p3_::U::U::U :: .int .i64 i7::uu 108 [])
def zFn (S:SatT) (K:KT):(XT)→XT:=fun X fr h=>cwp S tab vO (vO 0) (sq Tryz.f90 7 116) (kSeq (fun fr h=>X (mask (vO 0) fr) h) (kBlk 0 (zdb S K))) fr h
def zFq (S:SatT) (K:KT) (s1_ s2_:Sl) (p3_:Pt) (i7:Int) (h:H):Prop:=zs (zFn S K) (zhz s1_ s2_ p3_ i7) h
def zCr (S:SatT) (K:KT) (X0:XT):Kont:=kSeq (cwp S tab vO (vO 0) (sq Tryz.f90 9 467) (kSeq (fun fr h=>X0 (mask (vO 0) fr) h) (kBlk 0 (zdb S K)))) (kSeq (fun fr h=>X0 (mask (vO 0) fr) h) (kBlk 0 (zdb S K)))
def zhy (s1_ s2_:Sl) (p3_:Pt) (i7 i8:Int):Frame:=(U :: .sl s1_ :: .sl s2_ :: .ptr p3_::U::U::U :: .int .i64 i7 :: .int .i64 i8::uu 107 [])
def zFm (S:SatT) (K:KT) (X0:XT):(XT)→XT:=fun X fr h=>cwp S tab vO (vO 2) (sq Tryz.f90 14 14924) (kSeq (fun fr h=>X (mask (vO 2) fr) h) (kBlk 2 (kBlk 1 (zCr S K X0)))) fr h
def zFp (S:SatT) (K:KT) (X0:XT) (s1_ s2_:Sl) (p3_:Pt) (i7 i8:Int) (h:H):Prop:=zs (zFm S K X0) (zhy s1_ s2_ p3_ i7 i8) h
def zFt (S:SatT) (K:KT) (X0:XT) (s1_ s2_:Sl) (p3_:Pt) (i7:Int) (h:H):Prop:=
 X0 (zhz s1_ s2_ p3_ (w64 (i7+(1)))) h
def zFs (S:SatT) (K:KT) (X0:XT) (s1_ s2_:Sl) (p3_:Pt) (i7:Int) (h:H):Prop:=
 zFt S K X0 s1_ s2_ p3_ i7 h
def zsG (S:SatT) (K:KT) (X0 X2:XT) (s1_ s2_:Sl) (p3_:Pt) (i7 i8:Int) (h:H):Prop:=
 ixS s1_ 1 i7 fun p0=>
 ldS p0 h fun s1=>
 bif (decide (i8<(s1.len:Int))) then
 ixS s1_ 1 i7 fun p2=>
 ldS p2 h fun s3=>
 ixS s3 1 i8 fun p4=>
 ldI .i64 p4 h fun n5=>
 isPt p3_ (
 ldS (Pt.add p3_ 1) h fun s6=>
 callB S We [.int .i64 n5,.int .i64 (-1),.int .i64 (w64 ((s6.len:Int)-(1)))] h fun b8 h7=>
 bif (!b8) then
 K (.int .i64 (2)) h7
 else
 X2 (zhy s1_ s2_ p3_ i7 (w64 (i8+(1)))) h7)
 else
 zFs S K X0 s1_ s2_ p3_ i7 h
theorem zsD (S:SatT) (K:KT) (X0 X2:XT) (s1_ s2_:Sl) (p3_:Pt) (i7 i8:Int) (h:H):zFm S K X0 X2 (zhy s1_ s2_ p3_ i7 i8) h=zsG S K X0 X2 s1_ s2_ p3_ i7 i8 h:=by kernel_rfl
theorem zsA (S:SatT) (K:KT) (X0:XT) (s1_ s2_:Sl) (p3_:Pt) (i7:Int) (I_:Int→H→Prop) (m_:Int→H→Nat)
  (hs:∀(X2:XT) (i8:Int) (h:H),I_ i8 h→(∀(i8':Int) (h':H),I_ i8' h'→m_ i8' h'<m_ i8 h→X2 (zhy s1_ s2_ p3_ i7 i8') h')→zsG S K X0 X2 s1_ s2_ p3_ i7 i8 h) (i8:Int) {h:H} (h0:I_ i8 h):zFp S K X0 s1_ s2_ p3_ i7 i8 h:=
 zg (σ :=(Int)) (fun s_=>zhy s1_ s2_ p3_ i7 (s_)) (fun s_ h=>I_ (s_) h) (fun s_ h=>m_ (s_) h)
  (fun X s_ h hi hx=>(zsD S K X0 X s1_ s2_ p3_ i7 (s_) h).mpr (hs X (s_) h hi fun i8' h' hi' hm'=>hx (i8') h' hi' hm')) (i8) h0
def zCq (S:SatT) (K:KT):Kont:=kSeq (cwp S tab vO [] (sq Tryz.f90 5 31) (kFun tab (Tryz.f90).results.toList K)) (kFun tab (Tryz.f90).results.toList K)
def vn (s1_ s2_:Sl) (p3_:Pt) (i9:Int):Frame:=(U :: .sl s1_ :: .sl s2_ :: .ptr p3_::uu 5 (.int .i64 i9::uu 106 []))
def zFl (S:SatT) (K:KT):(XT)→XT:=fun X fr h=>cwp S tab vO (vO 4) (sq Tryz.f90 8 244) (kSeq (fun fr h=>X (mask (vO 4) fr) h) (kBlk 4 (zCq S K))) fr h
def zFo (S:SatT) (K:KT) (s1_ s2_:Sl) (p3_:Pt) (i9:Int) (h:H):Prop:=zs (zFl S K) (vn s1_ s2_ p3_ i9) h
def zFr (S:SatT) (K:KT) (h:H):Prop:=
 K (.int .i64 (0)) h
def zsF (S:SatT) (K:KT) (X4:XT) (s1_ s2_:Sl) (p3_:Pt) (i9:Int) (h:H):Prop:=
 bif (decide (i9<(4))) then
 nz (2) (
 bif ((Int.tmod i9 (2))==(1)) then
 ixS s1_ 1 (0) fun p0=>
 ldS p0 h fun s1=>
 ixS s2_ 1 i9 fun p2=>
 ldS p2 h fun s3=>
 bif ((s3.len:Int) != (0)) then
 ixS s2_ 1 i9 fun p4=>
 ldS p4 h fun s5=>
 bif ((s5.len:Int) != (s1.len:Int)) then
 K (.int .i64 (2)) h
 else
 ldA p3_ 2 h fun cs6=>
 ixS s2_ 1 i9 fun p7=>
 ldS p7 h fun s8=>
 callB S ZL [.agg cs6,.sl s8] h fun b10 h9=>
 bif (!b10) then
 K (.int .i64 (2)) h9
 else
 X4 (vn s1_ s2_ p3_ (w64 (i9+(1)))) h9
 else
 ldA p3_ 2 h fun cs11=>
 ixS s2_ 1 i9 fun p12=>
 ldS p12 h fun s13=>
 callB S ZL [.agg cs11,.sl s13] h fun b15 h14=>
 bif (!b15) then
 K (.int .i64 (2)) h14
 else
 X4 (vn s1_ s2_ p3_ (w64 (i9+(1)))) h14
 else
 ixS s2_ 1 i9 fun p16=>
 ldS p16 h fun s17=>
 bif ((s17.len:Int) != (0)) then
 ixS s2_ 1 i9 fun p18=>
 ldS p18 h fun s19=>
 bif ((s19.len:Int) != (s1_.len:Int)) then
 K (.int .i64 (2)) h
 else
 ldA p3_ 2 h fun cs20=>
 ixS s2_ 1 i9 fun p21=>
 ldS p21 h fun s22=>
 callB S ZL [.agg cs20,.sl s22] h fun b24 h23=>
 bif (!b24) then
 K (.int .i64 (2)) h23
 else
 X4 (vn s1_ s2_ p3_ (w64 (i9+(1)))) h23
 else
 ldA p3_ 2 h fun cs25=>
 ixS s2_ 1 i9 fun p26=>
 ldS p26 h fun s27=>
 callB S ZL [.agg cs25,.sl s27] h fun b29 h28=>
 bif (!b29) then
 K (.int .i64 (2)) h28
 else
 X4 (vn s1_ s2_ p3_ (w64 (i9+(1)))) h28)
 else
 zFr S K h
theorem zsC (S:SatT) (K:KT) (X4:XT) (s1_ s2_:Sl) (p3_:Pt) (i9:Int) (h:H):zFl S K X4 (vn s1_ s2_ p3_ i9) h=zsF S K X4 s1_ s2_ p3_ i9 h:=by kernel_rfl
theorem zsz (S:SatT) (K:KT) (s1_ s2_:Sl) (p3_:Pt) (I_:Int→H→Prop) (m_:Int→H→Nat)
  (hs:∀(X4:XT) (i9:Int) (h:H),I_ i9 h→(∀(i9':Int) (h':H),I_ i9' h'→m_ i9' h'<m_ i9 h→X4 (vn s1_ s2_ p3_ i9') h')→zsF S K X4 s1_ s2_ p3_ i9 h) (i9:Int) {h:H} (h0:I_ i9 h):zFo S K s1_ s2_ p3_ i9 h:=
 zg (σ :=(Int)) (fun s_=>vn s1_ s2_ p3_ (s_)) (fun s_ h=>I_ (s_) h) (fun s_ h=>m_ (s_) h)
  (fun X s_ h hi hx=>(zsC S K X s1_ s2_ p3_ (s_) h).mpr (hs X (s_) h hi fun i9' h' hi' hm'=>hx (i9') h' hi' hm')) (i9) h0
def zFu (S:SatT) (K:KT) (s1_ s2_:Sl) (p3_:Pt) (h:H):Prop:=
 zFo S K s1_ s2_ p3_ (0) h
def zsH (S:SatT) (K:KT) (X0:XT) (s1_ s2_:Sl) (p3_:Pt) (i7:Int) (h:H):Prop:=
 bif (decide (i7<(s1_.len:Int))) then
 ixS s1_ 1 i7 fun p0=>
 ldS p0 h fun s1=>
 ixS s1_ 1 (0) fun p2=>
 ldS p2 h fun s3=>
 bif ((s1.len:Int) != (s3.len:Int)) then
 K (.int .i64 (2)) h
 else
 zFp S K X0 s1_ s2_ p3_ i7 (0) h
 else
 zFu S K s1_ s2_ p3_ h
theorem zsE (S:SatT) (K:KT) (X0:XT) (s1_ s2_:Sl) (p3_:Pt) (i7:Int) (h:H):zFn S K X0 (zhz s1_ s2_ p3_ i7) h=zsH S K X0 s1_ s2_ p3_ i7 h:=by kernel_rfl
theorem zsB (S:SatT) (K:KT) (s1_ s2_:Sl) (p3_:Pt) (I_:Int→H→Prop) (m_:Int→H→Nat)
  (hs:∀(X0:XT) (i7:Int) (h:H),I_ i7 h→(∀(i7':Int) (h':H),I_ i7' h'→m_ i7' h'<m_ i7 h→X0 (zhz s1_ s2_ p3_ i7') h')→zsH S K X0 s1_ s2_ p3_ i7 h) (i7:Int) {h:H} (h0:I_ i7 h):zFq S K s1_ s2_ p3_ i7 h:=
 zg (σ :=(Int)) (fun s_=>zhz s1_ s2_ p3_ (s_)) (fun s_ h=>I_ (s_) h) (fun s_ h=>m_ (s_) h)
  (fun X s_ h hi hx=>(zsE S K X s1_ s2_ p3_ (s_) h).mpr (hs X (s_) h hi fun i7' h' hi' hm'=>hx (i7') h' hi' hm')) (i7) h0
def zda (S:SatT) (K:KT) (x0:List AVal) (x1 x2:Sl) (h:H):Prop:=
 newK 2 x0 h fun p0 h1=>
 ldA p0 2 h1 fun cs2=>
 callB S zcy [.agg cs2] h1 fun b4 h3=>
 bif (!b4) then
 K (.int .i64 (1)) h3
 else
 bif (decide ((x1.len:Int)<(1))) then
 K (.int .i64 (2)) h3
 else
 bif (decide ((x1.len:Int)>(5))) then
 K (.int .i64 (2)) h3
 else
 ixS x1 1 (0) fun p5=>
 ldS p5 h3 fun s6=>
 bif (decide ((s6.len:Int)<(1))) then
 K (.int .i64 (2)) h3
 else
 ixS x1 1 (0) fun p7=>
 ldS p7 h3 fun s8=>
 bif (decide ((s8.len:Int)>(5))) then
 K (.int .i64 (2)) h3
 else
 bif ((x2.len:Int) != (4)) then
 K (.int .i64 (2)) h3
 else
 zFq S K x1 x2 p0 (0) h3
theorem zcZ (S:SatT) (K:KT) (x0:List AVal) (x1 x2:Sl) (h:H):cwp S tab vO [] (za Tryz.f90) (kFun tab Tryz.f90.results.toList K) (fr0 Tryz.f90 [.agg x0,.sl x1,.sl x2]) h=zda S K x0 x1 x2 h:=by kernel_rfl
theorem zCs (x0:List AVal) (x1 x2:Sl) (h:H) (K:Int→H→Prop) (hm:zda (Sat Tryz.prog) (fun v h'=>∃r,v = .int .i64 r∧K r h') x0 x1 x2 h):callI (Sat Tryz.prog) .i64 zBN [.agg x0,.sl x1,.sl x2] h K:=by
 have:=Sat.ex tok mixed vO Tryz.func90 (c:=za Tryz.f90) (by kernel_rfl) (zd Tryz.func90 (c:=za Tryz.f90) (by kernel_rfl) (by decide)) ((zcZ _ _ x0 x1 x2 h).mpr hm)
 obtain ⟨v,h2,h3,r,rfl,h4⟩:=this;exact ⟨r,h2,h3,h4⟩
def vR:Nat→List Nat:=fun i=>bif i==2 then [0,1,2,5,9,52,53] else bif i==0 then [0,3,4,10,26,27] else []
def zmz (S:SatT) (K:KT):Kont:=kSeq (cwp S tab vR [] (sq Tryz.f133 3 7) (kFun tab (Tryz.f133).results.toList K)) (kFun tab (Tryz.f133).results.toList K)
def zEh (S:SatT) (K:KT):Kont:=kSeq (cwp S tab vR [] (sq Tryz.f133 7 107) (zmz S K)) (zmz S K)
def Vs (s0_:Sl) (p3_ p4_:Pt) (s10_:Sl) (i26 i27:Int):Frame:=(.sl s0_::U::U :: .ptr p3_ :: .ptr p4_::uu 5 (.sl s10_::uu 15 (.int .i64 i26 :: .int .i64 i27::uu 61 [])))
def zyn (S:SatT) (K:KT):(XT)→XT:=fun X fr h=>cwp S tab vR (vR 0) (sq Tryz.f133 10 852) (kSeq (fun fr h=>X (mask (vR 0) fr) h) (kBlk 0 (zEh S K))) fr h
def zyq (S:SatT) (K:KT) (s0_:Sl) (p3_ p4_:Pt) (s10_:Sl) (i26 i27:Int) (h:H):Prop:=zs (zyn S K) (Vs s0_ p3_ p4_ s10_ i26 i27) h
def zyr (S:SatT) (K:KT) (p4_:Pt) (s10_:Sl) (h:H):Prop:=
 ldV p4_ h fun v0=>
 viaF v0 [.sl s10_] fun g1 ys2=>
 callB S g1 ys2 h fun b4 h3=>
 K (.bool b4) h3
def zko (S:SatT) (K:KT) (X0:XT) (s0_:Sl) (p3_ p4_:Pt) (s10_:Sl) (i26 i27:Int) (h:H):Prop:=
 bif (decide (i27<i26)) then
 ldI .i64 p3_ h fun n0=>
 ldI .i64 p3_ h fun n1=>
 cut s0_ 1 (w64 (i27*n0)) (w64 ((w64 (i27+(1)))*n1)) h fun s2=>
 callS S zrN [.sl s2] h fun s4 h3=>
 newS 1 1 [.sl s4] h3 fun s5 h6=>
 app s10_ s5 1 h6 fun s7 h8=>
 X0 (Vs s0_ p3_ p4_ s7 i26 (w64 (i27+(1)))) h8
 else
 zyr S K p4_ s10_ h
theorem zoE (S:SatT) (K:KT) (X0:XT) (s0_:Sl) (p3_ p4_:Pt) (s10_:Sl) (i26 i27:Int) (h:H):zyn S K X0 (Vs s0_ p3_ p4_ s10_ i26 i27) h=zko S K X0 s0_ p3_ p4_ s10_ i26 i27 h:=by kernel_rfl
theorem zoC (S:SatT) (K:KT) (s0_:Sl) (p3_ p4_:Pt) (i26:Int) (I_:Sl→Int→H→Prop) (m_:Sl→Int→H→Nat)
  (hs:∀(X0:XT) (s10_:Sl) (i27:Int) (h:H),I_ s10_ i27 h→(∀(s10_':Sl) (i27':Int) (h':H),I_ s10_' i27' h'→m_ s10_' i27' h'<m_ s10_ i27 h→X0 (Vs s0_ p3_ p4_ s10_' i26 i27') h')→zko S K X0 s0_ p3_ p4_ s10_ i26 i27 h) (s10_:Sl) (i27:Int) {h:H} (h0:I_ s10_ i27 h):zyq S K s0_ p3_ p4_ s10_ i26 i27 h:=
 zg (σ :=(Sl)×(Int)) (fun s_=>Vs s0_ p3_ p4_ (s_.1) i26 (s_.2)) (fun s_ h=>I_ (s_.1) (s_.2) h) (fun s_ h=>m_ (s_.1) (s_.2) h)
  (fun X s_ h hi hx=>(zoE S K X s0_ p3_ p4_ (s_.1) i26 (s_.2) h).mpr (hs X (s_.1) (s_.2) h hi fun s10_' i27' h' hi' hm'=>hx (s10_',i27') h' hi' hm')) (s10_,i27) h0
def zyo (S:SatT) (K:KT):Kont:=kSeq (cwp S tab vR [] (sq Tryz.f133 4 15) (kFun tab (Tryz.f133).results.toList K)) (kFun tab (Tryz.f133).results.toList K)
def vQ (s0_:Sl) (i1:Int) (p2_ p5_:Pt) (i9 i52 i53:Int):Frame:=(.sl s0_ :: .int .i64 i1 :: .ptr p2_::U::U :: .ptr p5_::U::U::U :: .int .i64 i9::uu 42 (.int .i64 i52 :: .int .i64 i53::uu 35 []))
def zym (S:SatT) (K:KT):(XT)→XT:=fun X fr h=>cwp S tab vR (vR 2) (sq Tryz.f133 7 116) (kSeq (fun fr h=>X (mask (vR 2) fr) h) (kBlk 2 (zyo S K))) fr h
def zyp (S:SatT) (K:KT) (s0_:Sl) (i1:Int) (p2_ p5_:Pt) (i9 i52 i53:Int) (h:H):Prop:=zs (zym S K) (vQ s0_ i1 p2_ p5_ i9 i52 i53) h
def zLn (S:SatT) (K:KT) (h:H):Prop:=
 K (.bool true) h
def zkn (S:SatT) (K:KT) (X2:XT) (s0_:Sl) (i1:Int) (p2_ p5_:Pt) (i9 i52 i53:Int) (h:H):Prop:=
 bif (decide (i53<i52)) then
 ldP p2_ h fun p0=>
 callV S Wg [.ptr p0,.int .i64 i9,.int .i64 i1,.int .i64 i53] h fun v2 h1=>
 viaT v2 fun vs3=>
 exI .i64 vs3 0 fun n4=>
 viaT v2 fun vs5=>
 exB vs5 1 fun b6=>
 bif b6 then
 ldP p2_ h1 fun p7=>
 nilC (.ptr p7) (
 isPt p7 (
 ldS (Pt.add p7 6) h1 fun s8=>
 ixS s8 1 (w64 (i9+(1))) fun p9=>
 ldS p9 h1 fun s10=>
 ixS s10 1 n4 fun p11=>
 ldB p11 h1 fun b12=>
 bif b12 then
 ldV p5_ h1 fun v13=>
 newS 1 1 [.int .i64 i53] h1 fun s14 h15=>
(cell h15 p5_=cell h1 p5_)∧(
 app s0_ s14 1 h15 fun s16 h17=>
(cell h17 p5_=cell h1 p5_)∧(
 viaF v13 [.sl s16,.int .i64 n4] fun g18 ys19=>
 callB S g18 ys19 h17 fun b21 h20=>
 bif (!b21) then
 K (.bool false) h20
 else
 X2 (vQ s0_ i1 p2_ p5_ i9 i52 (w64 (i53+(1)))) h20))
 else
 X2 (vQ s0_ i1 p2_ p5_ i9 i52 (w64 (i53+(1)))) h1))
 else
 X2 (vQ s0_ i1 p2_ p5_ i9 i52 (w64 (i53+(1)))) h1
 else
 zLn S K h
theorem zoD (S:SatT) (K:KT) (X2:XT) (s0_:Sl) (i1:Int) (p2_ p5_:Pt) (i9 i52 i53:Int) (h:H):zym S K X2 (vQ s0_ i1 p2_ p5_ i9 i52 i53) h=zkn S K X2 s0_ i1 p2_ p5_ i9 i52 i53 h:=by kernel_rfl
theorem zoB (S:SatT) (K:KT) (s0_:Sl) (i1:Int) (p2_ p5_:Pt) (i9 i52:Int) (I_:Int→H→Prop) (m_:Int→H→Nat)
  (hs:∀(X2:XT) (i53:Int) (h:H),I_ i53 h→(∀(i53':Int) (h':H),I_ i53' h'→m_ i53' h'<m_ i53 h→X2 (vQ s0_ i1 p2_ p5_ i9 i52 i53') h')→zkn S K X2 s0_ i1 p2_ p5_ i9 i52 i53 h) (i53:Int) {h:H} (h0:I_ i53 h):zyp S K s0_ i1 p2_ p5_ i9 i52 i53 h:=
 zg (σ :=(Int)) (fun s_=>vQ s0_ i1 p2_ p5_ i9 i52 (s_)) (fun s_ h=>I_ (s_) h) (fun s_ h=>m_ (s_) h)
  (fun X s_ h hi hx=>(zoD S K X s0_ i1 p2_ p5_ i9 i52 (s_) h).mpr (hs X (s_) h hi fun i53' h' hi' hm'=>hx (i53') h' hi' hm')) (i53) h0
def ZW (S:SatT) (K:KT) (x0:Sl) (x1:Int) (x2 x3:Pt) (x4 x5:Pt) (h:H):Prop:=
 ldP x2 h fun p0=>
 callI S .i64 qU [.ptr p0] h fun n2 h1=>
 bif ((x0.len:Int)==n2) then
 newS 0 1 [] h1 fun s3 h4=>
 ldP x2 h4 fun p5=>
 nilC (.ptr p5) (
 isPt p5 (
 ldS (Pt.add p5 2) h4 fun s6=>
 zyq S K x0 x3 x4 s3 (s6.len:Int) (0) h4))
 else
 ldP x2 h1 fun p7=>
 nilC (.ptr p7) (
 isPt p7 (
 isPt (Pt.add p7 0) (
 ldS (Pt.add (Pt.add p7 0) 1) h1 fun s8=>
 zyp S K x0 x1 x2 x5 (x0.len:Int) (s8.len:Int) (0) h1)))
theorem zag (S:SatT) (K:KT) (x0:Sl) (x1:Int) (x2 x3:Pt) (x4 x5:Pt) (h:H):cwp S tab vR [] (za Tryz.f133) (kFun tab Tryz.f133.results.toList K) (fr0 Tryz.f133 [.sl x0,.int .i64 x1,.ptr x2,.ptr x3,.ptr x4,.ptr x5]) h=ZW S K x0 x1 x2 x3 x4 x5 h:=by kernel_rfl
theorem zih (x0:Sl) (x1:Int) (x2 x3:Pt) (x4 x5:Pt) (h:H) (K:Bool→H→Prop) (hm:ZW (Sat Tryz.prog) (fun v h'=>∃r,v = .bool r∧K r h') x0 x1 x2 x3 x4 x5 h):callB (Sat Tryz.prog) zrO [.sl x0,.int .i64 x1,.ptr x2,.ptr x3,.ptr x4,.ptr x5] h K:=by
 have:=Sat.ex tok mixed vR Tryz.func133 (c:=za Tryz.f133) (by kernel_rfl) (zd Tryz.func133 (c:=za Tryz.f133) (by kernel_rfl) (by decide)) ((zag _ _ x0 x1 x2 x3 x4 x5 h).mpr hm)
 obtain ⟨v,h2,h3,r,rfl,h4⟩:=this;exact ⟨r,h2,h3,h4⟩
def Zo:Nat→List Nat:=fun i=>bif i==2 then [1,3,9,10,11,12,13] else bif i==0 then [1,3,9,10,11] else []
def zjK (S:SatT) (K:KT):Kont:=kSeq (cwp S tab Zo [] (sq Tryz.f30 4 15) (kFun tab (Tryz.f30).results.toList K)) (kFun tab (Tryz.f30).results.toList K)
def zie (s1_:Sl) (p3_:Pt) (s9_ s10_:Sl) (i11:Int):Frame:=(U :: .sl s1_::U :: .ptr p3_::uu 5 (.sl s9_ :: .sl s10_ :: .int .i64 i11::uu 51 []))
def zGY (S:SatT) (K:KT):(XT)→XT:=fun X fr h=>cwp S tab Zo (Zo 0) (sq Tryz.f30 7 116) (kSeq (fun fr h=>X (mask (Zo 0) fr) h) (kBlk 0 (zjK S K))) fr h
def zHa (S:SatT) (K:KT) (s1_:Sl) (p3_:Pt) (s9_ s10_:Sl) (i11:Int) (h:H):Prop:=zs (zGY S K) (zie s1_ p3_ s9_ s10_ i11) h
def zmp (S:SatT) (K:KT) (X0:XT):Kont:=kSeq (cwp S tab Zo (Zo 0) (sq Tryz.f30 9 467) (kSeq (fun fr h=>X0 (mask (Zo 0) fr) h) (kBlk 0 (zjK S K)))) (kSeq (fun fr h=>X0 (mask (Zo 0) fr) h) (kBlk 0 (zjK S K)))
def zDM (S:SatT) (K:KT) (X0:XT):Kont:=kSeq (cwp S tab Zo (Zo 1) (sq Tryz.f30 13 7463) (kBlk 1 (zmp S K X0))) (kBlk 1 (zmp S K X0))
def zbD (s1_:Sl) (p3_:Pt) (s9_ s10_:Sl) (i11 i12 i13:Int):Frame:=(U :: .sl s1_::U :: .ptr p3_::uu 5 (.sl s9_ :: .sl s10_ :: .int .i64 i11 :: .int .i64 i12 :: .int .i64 i13::uu 49 []))
def zGX (S:SatT) (K:KT) (X0:XT):(XT)→XT:=fun X fr h=>cwp S tab Zo (Zo 2) (sq Tryz.f30 16 59700) (kSeq (fun fr h=>X (mask (Zo 2) fr) h) (kBlk 2 (zDM S K X0))) fr h
def zGZ (S:SatT) (K:KT) (X0:XT) (s1_:Sl) (p3_:Pt) (s9_ s10_:Sl) (i11 i12 i13:Int) (h:H):Prop:=zs (zGX S K X0) (zbD s1_ p3_ s9_ s10_ i11 i12 i13) h
def zHc (S:SatT) (K:KT) (X0:XT) (s1_:Sl) (p3_:Pt) (s9_ s10_:Sl) (i11:Int) (h:H):Prop:=
 X0 (zie s1_ p3_ s9_ s10_ (w64 (i11+(1)))) h
def zHb (S:SatT) (K:KT) (X0:XT) (s1_:Sl) (p3_:Pt) (s9_ s10_:Sl) (i11 i12:Int) (h:H):Prop:=
 newS 1 1 [.int .i64 i12] h fun s0 h1=>
 app s10_ s0 1 h1 fun s2 h3=>
 zHc S K X0 s1_ p3_ s9_ s2 i11 h3
def zvQ (S:SatT) (K:KT) (X0 X2:XT) (s1_:Sl) (p3_:Pt) (s9_ s10_:Sl) (i11 i12 i13:Int) (h:H):Prop:=
 isPt p3_ (
 ldS (Pt.add p3_ 1) h fun s0=>
 bif (decide (i13<(s0.len:Int))) then
 ixS s9_ 1 i11 fun p1=>
 ldI .i64 p1 h fun n2=>
 nn (IntKind.wrap .u64 (i13)) (
 bif (n2==(shlI .i64 (1) (IntKind.wrap .u64 (i13)))) then
 X2 (zbD s1_ p3_ s9_ s10_ i11 i13 (w64 (i13+(1)))) h
 else
 X2 (zbD s1_ p3_ s9_ s10_ i11 i12 (w64 (i13+(1)))) h)
 else
 zHb S K X0 s1_ p3_ s9_ s10_ i11 i12 h)
theorem zvO (S:SatT) (K:KT) (X0 X2:XT) (s1_:Sl) (p3_:Pt) (s9_ s10_:Sl) (i11 i12 i13:Int) (h:H):zGX S K X0 X2 (zbD s1_ p3_ s9_ s10_ i11 i12 i13) h=zvQ S K X0 X2 s1_ p3_ s9_ s10_ i11 i12 i13 h:=by kernel_rfl
theorem zvM (S:SatT) (K:KT) (X0:XT) (s1_:Sl) (p3_:Pt) (s9_ s10_:Sl) (i11:Int) (I_:Int→Int→H→Prop) (m_:Int→Int→H→Nat)
  (hs:∀(X2:XT) (i12 i13:Int) (h:H),I_ i12 i13 h→(∀(i12' i13':Int) (h':H),I_ i12' i13' h'→m_ i12' i13' h'<m_ i12 i13 h→X2 (zbD s1_ p3_ s9_ s10_ i11 i12' i13') h')→zvQ S K X0 X2 s1_ p3_ s9_ s10_ i11 i12 i13 h) (i12 i13:Int) {h:H} (h0:I_ i12 i13 h):zGZ S K X0 s1_ p3_ s9_ s10_ i11 i12 i13 h:=
 zg (σ :=(Int)×(Int)) (fun s_=>zbD s1_ p3_ s9_ s10_ i11 (s_.1) (s_.2)) (fun s_ h=>I_ (s_.1) (s_.2) h) (fun s_ h=>m_ (s_.1) (s_.2) h)
  (fun X s_ h hi hx=>(zvO S K X0 X s1_ p3_ s9_ s10_ i11 (s_.1) (s_.2) h).mpr (hs X (s_.1) (s_.2) h hi fun i12' i13' h' hi' hm'=>hx (i12',i13') h' hi' hm')) (i12,i13) h0
def zHd (S:SatT) (K:KT) (s1_ s10_:Sl) (h:H):Prop:=
 ixS s1_ 1 (0) fun p0=>
 ldS p0 h fun s1=>
 callS S zII [.sl s10_,.int .i64 (s1.len:Int)] h fun s3 h2=>
 K (.tuple [.sl s3,.int .i64 (0)]) h2
def zvR (S:SatT) (K:KT) (X0:XT) (s1_:Sl) (p3_:Pt) (s9_ s10_:Sl) (i11:Int) (h:H):Prop:=
 bif (decide (i11<(s9_.len:Int))) then
 ixS s9_ 1 i11 fun p0=>
 ldI .i64 p0 h fun n1=>
 bif (n1==(0)) then
 K (.tuple [.sl Sl.nil,.int .i64 (4)]) h
 else
 zGZ S K X0 s1_ p3_ s9_ s10_ i11 (-1) (0) h
 else
 zHd S K s1_ s10_ h
theorem zvP (S:SatT) (K:KT) (X0:XT) (s1_:Sl) (p3_:Pt) (s9_ s10_:Sl) (i11:Int) (h:H):zGY S K X0 (zie s1_ p3_ s9_ s10_ i11) h=zvR S K X0 s1_ p3_ s9_ s10_ i11 h:=by kernel_rfl
theorem zvN (S:SatT) (K:KT) (s1_:Sl) (p3_:Pt) (s9_:Sl) (I_:Sl→Int→H→Prop) (m_:Sl→Int→H→Nat)
  (hs:∀(X0:XT) (s10_:Sl) (i11:Int) (h:H),I_ s10_ i11 h→(∀(s10_':Sl) (i11':Int) (h':H),I_ s10_' i11' h'→m_ s10_' i11' h'<m_ s10_ i11 h→X0 (zie s1_ p3_ s9_ s10_' i11') h')→zvR S K X0 s1_ p3_ s9_ s10_ i11 h) (s10_:Sl) (i11:Int) {h:H} (h0:I_ s10_ i11 h):zHa S K s1_ p3_ s9_ s10_ i11 h:=
 zg (σ :=(Sl)×(Int)) (fun s_=>zie s1_ p3_ s9_ (s_.1) (s_.2)) (fun s_ h=>I_ (s_.1) (s_.2) h) (fun s_ h=>m_ (s_.1) (s_.2) h)
  (fun X s_ h hi hx=>(zvP S K X s1_ p3_ s9_ (s_.1) (s_.2) h).mpr (hs X (s_.1) (s_.2) h hi fun s10_' i11' h' hi' hm'=>hx (s10_',i11') h' hi' hm')) (s10_,i11) h0
def zfN (S:SatT) (K:KT) (x0:List AVal) (x1 x2:Sl) (h:H):Prop:=
 newK 2 x0 h fun p0 h1=>
 ldA p0 2 h1 fun cs2=>
 callI S .i64 zBN [.agg cs2,.sl x1,.sl x2] h1 fun n4 h3=>
 bif (n4 != (0)) then
 K (.tuple [.sl Sl.nil,.int .i64 n4]) h3
 else
 ldA p0 2 h3 fun cs5=>
 callS S zjm [.agg cs5,.sl x1,.sl x2] h3 fun s7 h6=>
 newS 0 1 [] h6 fun s8 h9=>
 zHa S K x1 p0 s7 s8 (0) h9
theorem zfM (S:SatT) (K:KT) (x0:List AVal) (x1 x2:Sl) (h:H):cwp S tab Zo [] (za Tryz.f30) (kFun tab Tryz.f30.results.toList K) (fr0 Tryz.f30 [.agg x0,.sl x1,.sl x2]) h=zfN S K x0 x1 x2 h:=by kernel_rfl
theorem zDN (x0:List AVal) (x1 x2:Sl) (h:H) (K:KT) (hm:zfN (Sat Tryz.prog) (fun v h'=>K v h') x0 x1 x2 h):callV (Sat Tryz.prog) zIV [.agg x0,.sl x1,.sl x2] h K:=by
 have:=Sat.ex tok mixed Zo Tryz.func30 (c:=za Tryz.f30) (by kernel_rfl) (zd Tryz.func30 (c:=za Tryz.f30) (by kernel_rfl) (by decide)) ((zfM _ _ x0 x1 x2 h).mpr hm)
 exact this
def Yx:Nat→List Nat:=fun i=>bif i==2 then [1,2,5,6] else bif i==0 then [1,2,5] else []
def zjv (S:SatT) (K:KT):Kont:=kSeq (cwp S tab Yx [] (sq Tryz.f84 2 3) (kFun tab (Tryz.f84).results.toList K)) (kFun tab (Tryz.f84).results.toList K)
def zhD (s1_:Sl) (p2_:Pt) (i5:Int):Frame:=(U :: .sl s1_ :: .ptr p2_::U::U :: .int .i64 i5::uu 70 [])
def zFQ (S:SatT) (K:KT):(XT)→XT:=fun X fr h=>cwp S tab Yx (Yx 0) (sq Tryz.f84 5 20) (kSeq (fun fr h=>X (mask (Yx 0) fr) h) (kBlk 0 (zjv S K))) fr h
def zFS (S:SatT) (K:KT) (s1_:Sl) (p2_:Pt) (i5:Int) (h:H):Prop:=zs (zFQ S K) (zhD s1_ p2_ i5) h
def zJk (S:SatT) (K:KT) (X0:XT):Kont:=kSeq (cwp S tab Yx (Yx 0) (sq Tryz.f84 7 83) (kSeq (fun fr h=>X0 (mask (Yx 0) fr) h) (kBlk 0 (zjv S K)))) (kSeq (fun fr h=>X0 (mask (Yx 0) fr) h) (kBlk 0 (zjv S K)))
def vP (s1_:Sl) (p2_:Pt) (i5 i6:Int):Frame:=(U :: .sl s1_ :: .ptr p2_::U::U :: .int .i64 i5 :: .int .i64 i6::uu 69 [])
def zFP (S:SatT) (K:KT) (X0:XT):(XT)→XT:=fun X fr h=>cwp S tab Yx (Yx 2) (sq Tryz.f84 11 1316) (kSeq (fun fr h=>X (mask (Yx 2) fr) h) (kBlk 2 (kBlk 1 (zJk S K X0)))) fr h
def zFR (S:SatT) (K:KT) (X0:XT) (s1_:Sl) (p2_:Pt) (i5 i6:Int) (h:H):Prop:=zs (zFP S K X0) (vP s1_ p2_ i5 i6) h
def zFU (S:SatT) (K:KT) (X0:XT) (s1_:Sl) (p2_:Pt) (i5:Int) (h:H):Prop:=
 X0 (zhD s1_ p2_ (w64 (i5+(1)))) h
def zFT (S:SatT) (K:KT) (X0:XT) (s1_:Sl) (p2_:Pt) (i5:Int) (h:H):Prop:=
 zFU S K X0 s1_ p2_ i5 h
def ztr (S:SatT) (K:KT) (X0 X2:XT) (s1_:Sl) (p2_:Pt) (i5 i6:Int) (h:H):Prop:=
 ixS s1_ 1 i5 fun p0=>
 ldS p0 h fun s1=>
 bif (decide (i6<(s1.len:Int))) then
 isPt p2_ (
 ldS (Pt.add p2_ 1) h fun s2=>
 ixS s1_ 1 i5 fun p3=>
 ldS p3 h fun s4=>
 ixS s4 1 i6 fun p5=>
 ldI .i64 p5 h fun n6=>
 ixS s2 4 n6 fun p7=>
 ldA p7 4 h fun cs8=>
 newO [.int .i64 (0),.int .i64 (0),.int .i64 (0),.int .i64 (0)] h fun p9 h10=>
(range h10 p7.o p7.n p7.off 4=range h p7.o p7.n p7.off 4)∧(
(cell h10 p5=cell h p5)∧(
(cell h10 p3=cell h p3)∧(
(cell h10 (Pt.add p2_ 1)=cell h (Pt.add p2_ 1))∧(
 stN p9 4 cs8 h10 fun h11=>
 bif (decide (i6>(0))) then
 isPt p2_ (
 ldS (Pt.add p2_ 1) h11 fun s12=>
 ixS s1_ 1 i5 fun p13=>
 ldS p13 h11 fun s14=>
 ixS s14 1 (w64 (i6-(1))) fun p15=>
 ldI .i64 p15 h11 fun n16=>
 ixS s12 4 n16 fun p17=>
 ixA p17 4 1 (2) fun p18=>
 ldI .i64 p18 h11 fun n19=>
 ixA p9 4 1 (0) fun p20=>
 ldI .i64 p20 h11 fun n21=>
 bif (n19 != n21) then
 K (.bool false) h11
 else
 bif (decide (i5>(0))) then
 isPt p2_ (
 ldS (Pt.add p2_ 1) h11 fun s22=>
 ixS s1_ 1 (w64 (i5-(1))) fun p23=>
 ldS p23 h11 fun s24=>
 ixS s24 1 i6 fun p25=>
 ldI .i64 p25 h11 fun n26=>
 ixS s22 4 n26 fun p27=>
 ixA p27 4 1 (3) fun p28=>
 ldI .i64 p28 h11 fun n29=>
 ixA p9 4 1 (1) fun p30=>
 ldI .i64 p30 h11 fun n31=>
 bif (n29 != n31) then
 K (.bool false) h11
 else
 X2 (vP s1_ p2_ i5 (w64 (i6+(1)))) h11)
 else
 X2 (vP s1_ p2_ i5 (w64 (i6+(1)))) h11)
 else
 bif (decide (i5>(0))) then
 isPt p2_ (
 ldS (Pt.add p2_ 1) h11 fun s32=>
 ixS s1_ 1 (w64 (i5-(1))) fun p33=>
 ldS p33 h11 fun s34=>
 ixS s34 1 i6 fun p35=>
 ldI .i64 p35 h11 fun n36=>
 ixS s32 4 n36 fun p37=>
 ixA p37 4 1 (3) fun p38=>
 ldI .i64 p38 h11 fun n39=>
 ixA p9 4 1 (1) fun p40=>
 ldI .i64 p40 h11 fun n41=>
 bif (n39 != n41) then
 K (.bool false) h11
 else
 X2 (vP s1_ p2_ i5 (w64 (i6+(1)))) h11)
 else
 X2 (vP s1_ p2_ i5 (w64 (i6+(1)))) h11)))))
 else
 zFT S K X0 s1_ p2_ i5 h
theorem ztp (S:SatT) (K:KT) (X0 X2:XT) (s1_:Sl) (p2_:Pt) (i5 i6:Int) (h:H):zFP S K X0 X2 (vP s1_ p2_ i5 i6) h=ztr S K X0 X2 s1_ p2_ i5 i6 h:=by kernel_rfl
theorem ztn (S:SatT) (K:KT) (X0:XT) (s1_:Sl) (p2_:Pt) (i5:Int) (I_:Int→H→Prop) (m_:Int→H→Nat)
  (hs:∀(X2:XT) (i6:Int) (h:H),I_ i6 h→(∀(i6':Int) (h':H),I_ i6' h'→m_ i6' h'<m_ i6 h→X2 (vP s1_ p2_ i5 i6') h')→ztr S K X0 X2 s1_ p2_ i5 i6 h) (i6:Int) {h:H} (h0:I_ i6 h):zFR S K X0 s1_ p2_ i5 i6 h:=
 zg (σ :=(Int)) (fun s_=>vP s1_ p2_ i5 (s_)) (fun s_ h=>I_ (s_) h) (fun s_ h=>m_ (s_) h)
  (fun X s_ h hi hx=>(ztp S K X0 X s1_ p2_ i5 (s_) h).mpr (hs X (s_) h hi fun i6' h' hi' hm'=>hx (i6') h' hi' hm')) (i6) h0
def zFV (S:SatT) (K:KT) (h:H):Prop:=
 K (.bool true) h
def zts (S:SatT) (K:KT) (X0:XT) (s1_:Sl) (p2_:Pt) (i5:Int) (h:H):Prop:=
 bif (decide (i5<(s1_.len:Int))) then
 zFR S K X0 s1_ p2_ i5 (0) h
 else
 zFV S K h
theorem ztq (S:SatT) (K:KT) (X0:XT) (s1_:Sl) (p2_:Pt) (i5:Int) (h:H):zFQ S K X0 (zhD s1_ p2_ i5) h=zts S K X0 s1_ p2_ i5 h:=by kernel_rfl
theorem zto (S:SatT) (K:KT) (s1_:Sl) (p2_:Pt) (I_:Int→H→Prop) (m_:Int→H→Nat)
  (hs:∀(X0:XT) (i5:Int) (h:H),I_ i5 h→(∀(i5':Int) (h':H),I_ i5' h'→m_ i5' h'<m_ i5 h→X0 (zhD s1_ p2_ i5') h')→zts S K X0 s1_ p2_ i5 h) (i5:Int) {h:H} (h0:I_ i5 h):zFS S K s1_ p2_ i5 h:=
 zg (σ :=(Int)) (fun s_=>zhD s1_ p2_ (s_)) (fun s_ h=>I_ (s_) h) (fun s_ h=>m_ (s_) h)
  (fun X s_ h hi hx=>(ztq S K X s1_ p2_ (s_) h).mpr (hs X (s_) h hi fun i5' h' hi' hm'=>hx (i5') h' hi' hm')) (i5) h0
def zdr (S:SatT) (K:KT) (x0:List AVal) (x1:Sl) (h:H):Prop:=
 newK 2 x0 h fun p0 h1=>
 zFS S K x1 p0 (0) h1
theorem zdq (S:SatT) (K:KT) (x0:List AVal) (x1:Sl) (h:H):cwp S tab Yx [] (za Tryz.f84) (kFun tab Tryz.f84.results.toList K) (fr0 Tryz.f84 [.agg x0,.sl x1]) h=zdr S K x0 x1 h:=by kernel_rfl
theorem zCz (x0:List AVal) (x1:Sl) (h:H) (K:Bool→H→Prop) (hm:zdr (Sat Tryz.prog) (fun v h'=>∃r,v = .bool r∧K r h') x0 x1 h):callB (Sat Tryz.prog) zIJ [.agg x0,.sl x1] h K:=by
 have:=Sat.ex tok mixed Yx Tryz.func84 (c:=za Tryz.f84) (by kernel_rfl) (zd Tryz.func84 (c:=za Tryz.f84) (by kernel_rfl) (by decide)) ((zdq _ _ x0 x1 h).mpr hm)
 obtain ⟨v,h2,h3,r,rfl,h4⟩:=this;exact ⟨r,h2,h3,h4⟩
def wM:Nat→List Nat:=fun i=>bif i==2 then [1,2,9,10,11,15,16,17] else bif i==0 then [1,2,9,10,11] else []
def zgi (S:SatT) (K:KT):Kont:=kSeq (cwp S tab wM [] (sq Tryz.f125 2 3) (kFun tab (Tryz.f125).results.toList K)) (kFun tab (Tryz.f125).results.toList K)
def V6 (s1_:Sl) (p2_:Pt) (s9_:Sl) (i10 i11:Int):Frame:=(U :: .sl s1_ :: .ptr p2_::uu 6 (.sl s9_ :: .int .i64 i10 :: .int .i64 i11::uu 21 []))
def zzt (S:SatT) (K:KT):(XT)→XT:=fun X fr h=>cwp S tab wM (wM 0) (sq Tryz.f125 5 20) (kSeq (fun fr h=>X (mask (wM 0) fr) h) (kBlk 0 (zgi S K))) fr h
def zzw (S:SatT) (K:KT) (s1_:Sl) (p2_:Pt) (s9_:Sl) (i10 i11:Int) (h:H):Prop:=zs (zzt S K) (V6 s1_ p2_ s9_ i10 i11) h
def zEl (S:SatT) (K:KT) (X0:XT):Kont:=kSeq (cwp S tab wM (wM 0) (sq Tryz.f125 8 167) (kSeq (fun fr h=>X0 (mask (wM 0) fr) h) (kBlk 0 (zgi S K)))) (kSeq (fun fr h=>X0 (mask (wM 0) fr) h) (kBlk 0 (zgi S K)))
def Zq (s1_:Sl) (p2_:Pt) (s9_:Sl) (i10 i11:Int) (s15_:Sl) (i16 i17:Int):Frame:=(U :: .sl s1_ :: .ptr p2_::uu 6 (.sl s9_ :: .int .i64 i10 :: .int .i64 i11::U::U::U :: .sl s15_ :: .int .i64 i16 :: .int .i64 i17::uu 15 []))
def zzs (S:SatT) (K:KT) (X0:XT):(XT)→XT:=fun X fr h=>cwp S tab wM (wM 2) (sq Tryz.f125 13 5324) (kSeq (fun fr h=>X (mask (wM 2) fr) h) (kBlk 2 (kBlk 1 (zEl S K X0)))) fr h
def zzv (S:SatT) (K:KT) (X0:XT) (s1_:Sl) (p2_:Pt) (s9_:Sl) (i10 i11:Int) (s15_:Sl) (i16 i17:Int) (h:H):Prop:=zs (zzs S K X0) (Zq s1_ p2_ s9_ i10 i11 s15_ i16 i17) h
def zzy (S:SatT) (K:KT) (X0:XT) (s1_:Sl) (p2_:Pt) (s9_:Sl) (i10 i11:Int) (h:H):Prop:=
 X0 (V6 s1_ p2_ s9_ i10 (w64 (i11+(1)))) h
def zzx (S:SatT) (K:KT) (X0:XT) (s1_:Sl) (p2_:Pt) (s9_:Sl) (i10 i11:Int) (h:H):Prop:=
 zzy S K X0 s1_ p2_ s9_ i10 i11 h
def zkJ (S:SatT) (K:KT) (X0 X2:XT) (s1_:Sl) (p2_:Pt) (s9_:Sl) (i10 i11:Int) (s15_:Sl) (i16 i17:Int) (h:H):Prop:=
 bif (decide (i17<i16)) then
 ixS s15_ 1 i17 fun p0=>
 ldI .i64 p0 h fun n1=>
 bif (n1 != (-1)) then
 ldA p2_ 2 h fun cs2=>
 callB S zrZ [.agg cs2,.int .i64 n1] h fun b4 h3=>
 bif (!b4) then
 K (.bool false) h3
 else
 X2 (Zq s1_ p2_ s9_ i10 i11 s15_ i16 (w64 (i17+(1)))) h3
 else
 X2 (Zq s1_ p2_ s9_ i10 i11 s15_ i16 (w64 (i17+(1)))) h
 else
 zzx S K X0 s1_ p2_ s9_ i10 i11 h
theorem zpv (S:SatT) (K:KT) (X0 X2:XT) (s1_:Sl) (p2_:Pt) (s9_:Sl) (i10 i11:Int) (s15_:Sl) (i16 i17:Int) (h:H):zzs S K X0 X2 (Zq s1_ p2_ s9_ i10 i11 s15_ i16 i17) h=zkJ S K X0 X2 s1_ p2_ s9_ i10 i11 s15_ i16 i17 h:=by kernel_rfl
theorem zpt (S:SatT) (K:KT) (X0:XT) (s1_:Sl) (p2_:Pt) (s9_:Sl) (i10 i11:Int) (s15_:Sl) (i16:Int) (I_:Int→H→Prop) (m_:Int→H→Nat)
  (hs:∀(X2:XT) (i17:Int) (h:H),I_ i17 h→(∀(i17':Int) (h':H),I_ i17' h'→m_ i17' h'<m_ i17 h→X2 (Zq s1_ p2_ s9_ i10 i11 s15_ i16 i17') h')→zkJ S K X0 X2 s1_ p2_ s9_ i10 i11 s15_ i16 i17 h) (i17:Int) {h:H} (h0:I_ i17 h):zzv S K X0 s1_ p2_ s9_ i10 i11 s15_ i16 i17 h:=
 zg (σ :=(Int)) (fun s_=>Zq s1_ p2_ s9_ i10 i11 s15_ i16 (s_)) (fun s_ h=>I_ (s_) h) (fun s_ h=>m_ (s_) h)
  (fun X s_ h hi hx=>(zpv S K X0 X s1_ p2_ s9_ i10 i11 s15_ i16 (s_) h).mpr (hs X (s_) h hi fun i17' h' hi' hm'=>hx (i17') h' hi' hm')) (i17) h0
def zzz (S:SatT) (K:KT) (s1_:Sl) (h:H):Prop:=
 callB S zrY [.sl s1_,.int .i64 (5)] h fun b1 h0=>
 K (.bool b1) h0
def zkK (S:SatT) (K:KT) (X0:XT) (s1_:Sl) (p2_:Pt) (s9_:Sl) (i10 i11:Int) (h:H):Prop:=
 bif (decide (i11<i10)) then
 ixS s9_ 1 i11 fun p0=>
 ldS p0 h fun s1=>
 zzv S K X0 s1_ p2_ s9_ i10 i11 s1 (s1.len:Int) (0) h
 else
 zzz S K s1_ h
theorem zpw (S:SatT) (K:KT) (X0:XT) (s1_:Sl) (p2_:Pt) (s9_:Sl) (i10 i11:Int) (h:H):zzt S K X0 (V6 s1_ p2_ s9_ i10 i11) h=zkK S K X0 s1_ p2_ s9_ i10 i11 h:=by kernel_rfl
theorem zpu (S:SatT) (K:KT) (s1_:Sl) (p2_:Pt) (s9_:Sl) (i10:Int) (I_:Int→H→Prop) (m_:Int→H→Nat)
  (hs:∀(X0:XT) (i11:Int) (h:H),I_ i11 h→(∀(i11':Int) (h':H),I_ i11' h'→m_ i11' h'<m_ i11 h→X0 (V6 s1_ p2_ s9_ i10 i11') h')→zkK S K X0 s1_ p2_ s9_ i10 i11 h) (i11:Int) {h:H} (h0:I_ i11 h):zzw S K s1_ p2_ s9_ i10 i11 h:=
 zg (σ :=(Int)) (fun s_=>V6 s1_ p2_ s9_ i10 (s_)) (fun s_ h=>I_ (s_) h) (fun s_ h=>m_ (s_) h)
  (fun X s_ h hi hx=>(zpw S K X s1_ p2_ s9_ i10 (s_) h).mpr (hs X (s_) h hi fun i11' h' hi' hm'=>hx (i11') h' hi' hm')) (i11) h0
def V5 (S:SatT) (K:KT) (x0:List AVal) (x1:Sl) (h:H):Prop:=
 newK 2 x0 h fun p0 h1=>
 zzw S K x1 p0 x1 (x1.len:Int) (0) h1
theorem zay (S:SatT) (K:KT) (x0:List AVal) (x1:Sl) (h:H):cwp S tab wM [] (za Tryz.f125) (kFun tab Tryz.f125.results.toList K) (fr0 Tryz.f125 [.agg x0,.sl x1]) h=V5 S K x0 x1 h:=by kernel_rfl
theorem zzu (x0:List AVal) (x1:Sl) (h:H) (K:Bool→H→Prop) (hm:V5 (Sat Tryz.prog) (fun v h'=>∃r,v = .bool r∧K r h') x0 x1 h):callB (Sat Tryz.prog) zrS [.agg x0,.sl x1] h K:=by
 have:=Sat.ex tok mixed wM Tryz.func125 (c:=za Tryz.f125) (by kernel_rfl) (zd Tryz.func125 (c:=za Tryz.f125) (by kernel_rfl) (by decide)) ((zay _ _ x0 x1 h).mpr hm)
 obtain ⟨v,h2,h3,r,rfl,h4⟩:=this;exact ⟨r,h2,h3,h4⟩
def Zm:Nat→List Nat:=fun i=>bif i==2 then [1,4,5,6,7] else bif i==0 then [1,4,5] else []
def zjw (S:SatT) (K:KT):Kont:=kSeq (cwp S tab Zm [] (sq Tryz.f46 4 15) (kFun tab (Tryz.f46).results.toList K)) (kFun tab (Tryz.f46).results.toList K)
def zhK (p1_:Pt) (s4_:Sl) (i5:Int):Frame:=(U :: .ptr p1_::U::U :: .sl s4_ :: .int .i64 i5::uu 28 [])
def zGs (S:SatT) (K:KT):(XT)→XT:=fun X fr h=>cwp S tab Zm (Zm 0) (sq Tryz.f46 7 116) (kSeq (fun fr h=>X (mask (Zm 0) fr) h) (kBlk 0 (zjw S K))) fr h
def zGu (S:SatT) (K:KT) (p1_:Pt) (s4_:Sl) (i5:Int) (h:H):Prop:=zs (zGs S K) (zhK p1_ s4_ i5) h
def ztT (S:SatT) (K:KT) (X0:XT):Kont:=kSeq (cwp S tab Zm (Zm 0) (sq Tryz.f46 9 467) (kSeq (fun fr h=>X0 (mask (Zm 0) fr) h) (kBlk 0 (zjw S K)))) (kSeq (fun fr h=>X0 (mask (Zm 0) fr) h) (kBlk 0 (zjw S K)))
def zCO (S:SatT) (K:KT) (X0:XT):Kont:=kSeq (cwp S tab Zm (Zm 1) (sq Tryz.f46 12 3731) (kBlk 1 (ztT S K X0))) (kBlk 1 (ztT S K X0))
def zhJ (p1_:Pt) (s4_:Sl) (i5:Int) (s6_:Sl) (i7:Int):Frame:=(U :: .ptr p1_::U::U :: .sl s4_ :: .int .i64 i5 :: .sl s6_ :: .int .i64 i7::uu 26 [])
def zGr (S:SatT) (K:KT) (X0:XT):(XT)→XT:=fun X fr h=>cwp S tab Zm (Zm 2) (sq Tryz.f46 15 29844) (kSeq (fun fr h=>X (mask (Zm 2) fr) h) (kBlk 2 (zCO S K X0))) fr h
def zGt (S:SatT) (K:KT) (X0:XT) (p1_:Pt) (s4_:Sl) (i5:Int) (s6_:Sl) (i7:Int) (h:H):Prop:=zs (zGr S K X0) (zhJ p1_ s4_ i5 s6_ i7) h
def zGw (S:SatT) (K:KT) (X0:XT) (p1_:Pt) (s4_:Sl) (i5:Int) (h:H):Prop:=
 X0 (zhK p1_ s4_ (w64 (i5+(1)))) h
def zGv (S:SatT) (K:KT) (X0:XT) (p1_:Pt) (s4_:Sl) (i5:Int) (s6_:Sl) (h:H):Prop:=
 newS 1 1 [.sl s6_] h fun s0 h1=>
 app s4_ s0 1 h1 fun s2 h3=>
 zGw S K X0 p1_ s2 i5 h3
def ztU (S:SatT) (K:KT) (X0 X2:XT) (p1_:Pt) (s4_:Sl) (i5:Int) (s6_:Sl) (i7:Int) (h:H):Prop:=
 bif (decide (i7≤(3))) then
 ldA p1_ 2 h fun cs0=>
 callI S .i64 zrq [.agg cs0,.int .i64 i5,.int .i64 i7] h fun n2 h1=>
 newS 1 1 [.int .i64 (mnI n2 (1))] h1 fun s3 h4=>
 app s6_ s3 1 h4 fun s5 h6=>
 X2 (zhJ p1_ s4_ i5 s5 (w64 (i7+(1)))) h6
 else
 zGv S K X0 p1_ s4_ i5 s6_ h
theorem ztR (S:SatT) (K:KT) (X0 X2:XT) (p1_:Pt) (s4_:Sl) (i5:Int) (s6_:Sl) (i7:Int) (h:H):zGr S K X0 X2 (zhJ p1_ s4_ i5 s6_ i7) h=ztU S K X0 X2 p1_ s4_ i5 s6_ i7 h:=by kernel_rfl
theorem ztP (S:SatT) (K:KT) (X0:XT) (p1_:Pt) (s4_:Sl) (i5:Int) (I_:Sl→Int→H→Prop) (m_:Sl→Int→H→Nat)
  (hs:∀(X2:XT) (s6_:Sl) (i7:Int) (h:H),I_ s6_ i7 h→(∀(s6_':Sl) (i7':Int) (h':H),I_ s6_' i7' h'→m_ s6_' i7' h'<m_ s6_ i7 h→X2 (zhJ p1_ s4_ i5 s6_' i7') h')→ztU S K X0 X2 p1_ s4_ i5 s6_ i7 h) (s6_:Sl) (i7:Int) {h:H} (h0:I_ s6_ i7 h):zGt S K X0 p1_ s4_ i5 s6_ i7 h:=
 zg (σ :=(Sl)×(Int)) (fun s_=>zhJ p1_ s4_ i5 (s_.1) (s_.2)) (fun s_ h=>I_ (s_.1) (s_.2) h) (fun s_ h=>m_ (s_.1) (s_.2) h)
  (fun X s_ h hi hx=>(ztR S K X0 X p1_ s4_ i5 (s_.1) (s_.2) h).mpr (hs X (s_.1) (s_.2) h hi fun s6_' i7' h' hi' hm'=>hx (s6_',i7') h' hi' hm')) (s6_,i7) h0
def zGx (S:SatT) (K:KT) (s4_:Sl) (h:H):Prop:=
 K (.tuple [.sl s4_,.int .i64 (0)]) h
def ztV (S:SatT) (K:KT) (X0:XT) (p1_:Pt) (s4_:Sl) (i5:Int) (h:H):Prop:=
 bif (decide (i5≤(3))) then
 newS 0 1 [] h fun s0 h1=>
 zGt S K X0 p1_ s4_ i5 s0 (1) h1
 else
 zGx S K s4_ h
theorem ztS (S:SatT) (K:KT) (X0:XT) (p1_:Pt) (s4_:Sl) (i5:Int) (h:H):zGs S K X0 (zhK p1_ s4_ i5) h=ztV S K X0 p1_ s4_ i5 h:=by kernel_rfl
theorem ztQ (S:SatT) (K:KT) (p1_:Pt) (I_:Sl→Int→H→Prop) (m_:Sl→Int→H→Nat)
  (hs:∀(X0:XT) (s4_:Sl) (i5:Int) (h:H),I_ s4_ i5 h→(∀(s4_':Sl) (i5':Int) (h':H),I_ s4_' i5' h'→m_ s4_' i5' h'<m_ s4_ i5 h→X0 (zhK p1_ s4_' i5') h')→ztV S K X0 p1_ s4_ i5 h) (s4_:Sl) (i5:Int) {h:H} (h0:I_ s4_ i5 h):zGu S K p1_ s4_ i5 h:=
 zg (σ :=(Sl)×(Int)) (fun s_=>zhK p1_ (s_.1) (s_.2)) (fun s_ h=>I_ (s_.1) (s_.2) h) (fun s_ h=>m_ (s_.1) (s_.2) h)
  (fun X s_ h hi hx=>(ztS S K X p1_ (s_.1) (s_.2) h).mpr (hs X (s_.1) (s_.2) h hi fun s4_' i5' h' hi' hm'=>hx (s4_',i5') h' hi' hm')) (s4_,i5) h0
def zdU (S:SatT) (K:KT) (x0:List AVal) (h:H):Prop:=
 newK 2 x0 h fun p0 h1=>
 ldA p0 2 h1 fun cs2=>
 callB S zcy [.agg cs2] h1 fun b4 h3=>
 bif (!b4) then
 K (.tuple [.sl Sl.nil,.int .i64 (1)]) h3
 else
 newS 0 1 [] h3 fun s5 h6=>
 zGu S K p0 s5 (1) h6
theorem zdT (S:SatT) (K:KT) (x0:List AVal) (h:H):cwp S tab Zm [] (za Tryz.f46) (kFun tab Tryz.f46.results.toList K) (fr0 Tryz.f46 [.agg x0]) h=zdU S K x0 h:=by kernel_rfl
theorem zCP (x0:List AVal) (h:H) (K:KT) (hm:zdU (Sat Tryz.prog) (fun v h'=>K v h') x0 h):callV (Sat Tryz.prog) zIL [.agg x0] h K:=by
 have:=Sat.ex tok mixed Zm Tryz.func46 (c:=za Tryz.f46) (by kernel_rfl) (zd Tryz.func46 (c:=za Tryz.f46) (by kernel_rfl) (by decide)) ((zdT _ _ x0 h).mpr hm)
 exact this
def zbN:Nat→List Nat:=fun i=>bif i==0 then [0,2,4,5,6] else []
def zEd (S:SatT) (K:KT):Kont:=kSeq (cwp S tab zbN [] (sq Tryz.f142 4 15) (kFun tab (Tryz.f142).results.toList K)) (kFun tab (Tryz.f142).results.toList K)
def Vg (f0_:AVal) (p2_:Pt) (s4_ s5_:Sl) (i6:Int):Frame:=(f0_::U :: .ptr p2_::U :: .sl s4_ :: .sl s5_ :: .int .i64 i6::uu 26 [])
def zxP (S:SatT) (K:KT):(XT)→XT:=fun X fr h=>cwp S tab zbN (zbN 0) (sq Tryz.f142 7 116) (kSeq (fun fr h=>X (mask (zbN 0) fr) h) (kBlk 0 (zEd S K))) fr h
def zxR (S:SatT) (K:KT) (f0_:AVal) (p2_:Pt) (s4_ s5_:Sl) (i6:Int) (h:H):Prop:=zs (zxP S K) (Vg f0_ p2_ s4_ s5_ i6) h
def zLm (S:SatT) (K:KT) (p2_:Pt) (h:H):Prop:=
 stN p2_ 2 [.int .i64 (0),.sl Sl.nil] h fun h0=>
 ldA p2_ 2 h0 fun cs1=>
 K (.tuple [.agg cs1,.bool false]) h0
def zki (S:SatT) (K:KT) (X0:XT) (f0_:AVal) (p2_:Pt) (s4_ s5_:Sl) (i6:Int) (h:H):Prop:=
 bif (decide (i6<(s4_.len:Int))) then
 ixS s4_ 1 i6 fun p0=>
 ldV p0 h fun v1=>
 zql v1 f0_ fun b2=>
 bif b2 then
 ixS s5_ 1 i6 fun p3=>
 ldV p3 h fun v4=>
 callV S zrz [v4] h fun v6 h5=>
 viaT v6 fun vs7=>
 exA vs7 0 fun cs8=>
 viaT v6 fun vs9=>
 exB vs9 1 fun b10=>
 newO [.int .i64 (0),.sl Sl.nil] h5 fun p11 h12=>
 stN p11 2 cs8 h12 fun h13=>
 ldA p11 2 h13 fun cs14=>
 stN p2_ 2 cs14 h13 fun h15=>
 ldA p2_ 2 h15 fun cs16=>
 K (.tuple [.agg cs16,.bool true]) h15
 else
 X0 (Vg f0_ p2_ s4_ s5_ (w64 (i6+(1)))) h
 else
 zLm S K p2_ h
theorem zos (S:SatT) (K:KT) (X0:XT) (f0_:AVal) (p2_:Pt) (s4_ s5_:Sl) (i6:Int) (h:H):zxP S K X0 (Vg f0_ p2_ s4_ s5_ i6) h=zki S K X0 f0_ p2_ s4_ s5_ i6 h:=by kernel_rfl
theorem zor (S:SatT) (K:KT) (f0_:AVal) (p2_:Pt) (s4_ s5_:Sl) (I_:Int→H→Prop) (m_:Int→H→Nat)
  (hs:∀(X0:XT) (i6:Int) (h:H),I_ i6 h→(∀(i6':Int) (h':H),I_ i6' h'→m_ i6' h'<m_ i6 h→X0 (Vg f0_ p2_ s4_ s5_ i6') h')→zki S K X0 f0_ p2_ s4_ s5_ i6 h) (i6:Int) {h:H} (h0:I_ i6 h):zxR S K f0_ p2_ s4_ s5_ i6 h:=
 zg (σ :=(Int)) (fun s_=>Vg f0_ p2_ s4_ s5_ (s_)) (fun s_ h=>I_ (s_) h) (fun s_ h=>m_ (s_) h)
  (fun X s_ h hi hx=>(zos S K X f0_ p2_ s4_ s5_ (s_) h).mpr (hs X (s_) h hi fun i6' h' hi' hm'=>hx (i6') h' hi' hm')) (i6) h0
def Vf (S:SatT) (K:KT) (x0:AVal) (h:H):Prop:=
 newO [.int .i64 (0),.sl Sl.nil] h fun p0 h1=>
 callS S zlR [] h1 fun s3 h2=>
 newS 8 1 [.str (⟨#[49,58,48,48,48,48]⟩:ByteArray),.str (⟨#[50,58,48,48,49,49,44,49,49,48,48]⟩:ByteArray),.str (⟨#[50,58,48,48,48,48,44,48,49,48,49,44,49,48,49,48,44,49,49,49,49]⟩:ByteArray),.str (⟨#[50,58,48,48,48,48,44,48,49,49,48,44,49,48,48,49,44,49,49,49,49]⟩:ByteArray),.str (⟨#[50,58,48,48,48,48,44,48,49,49,49,44,49,48,49,49,44,49,49,48,48]⟩:ByteArray),.str (⟨#[50,58,48,48,48,48,44,48,48,49,49,44,48,49,48,49,44,49,49,49,48]⟩:ByteArray),.str (⟨#[50,58,48,48,48,49]⟩:ByteArray),.str (⟨#[51,58,48,49,50,48,44,49,50,48,49,44,50,48,49,50]⟩:ByteArray)] h2 fun s4 h5=>
 zxR S K x0 p0 s3 s4 (0) h5
theorem Q8 (S:SatT) (K:KT) (x0:AVal) (h:H):cwp S tab zbN [] (za Tryz.f142) (kFun tab Tryz.f142.results.toList K) (fr0 Tryz.f142 [x0]) h=Vf S K x0 h:=by kernel_rfl
theorem zxQ (x0:AVal) (h:H) (K:KT) (hm:Vf (Sat Tryz.prog) (fun v h'=>K v h') x0 h):callV (Sat Tryz.prog) zrK [x0] h K:=by
 have:=Sat.ex tok mixed zbN Tryz.func142 (c:=za Tryz.f142) (by kernel_rfl) (zd Tryz.func142 (c:=za Tryz.f142) (by kernel_rfl) (by decide)) ((Q8 _ _ x0 h).mpr hm)
 exact this
def zbI:Nat→List Nat:=fun i=>bif i==0 then [7,8] else []
def zDW (S:SatT) (K:KT):Kont:=kSeq (cwp S tab zbI [] (sq Tryz.f156 7 127) (kFun tab (Tryz.f156).results.toList K)) (kFun tab (Tryz.f156).results.toList K)
def WM (s7_:Sl) (i8:Int):Frame:=(uu 7 (.sl s7_ :: .int .i64 i8::uu 39 []))
def zwH (S:SatT) (K:KT):(XT)→XT:=fun X fr h=>cwp S tab zbI (zbI 0) (sq Tryz.f156 9 504) (kSeq (fun fr h=>X (mask (zbI 0) fr) h) (kBlk 0 (zDW S K))) fr h
def zjW (S:SatT) (K:KT) (s7_:Sl) (i8:Int) (h:H):Prop:=zs (zwH S K) (WM s7_ i8) h
def zwJ (S:SatT) (K:KT) (s7_:Sl) (h:H):Prop:=
 K (.sl s7_) h
def zjV (S:SatT) (K:KT) (X0:XT) (s7_:Sl) (i8:Int) (h:H):Prop:=
 bif (decide (i8<(s7_.len:Int))) then
 cut s7_ 1 i8 (s7_.len:Int) h fun s0=>
 cut s7_ 1 (0) i8 h fun s1=>
 zaP s0 s1 1 h fun n2 h3=>
 X0 (WM s7_ (w64 (i8+n2))) h3
 else
 zwJ S K s7_ h
theorem zod (S:SatT) (K:KT) (X0:XT) (s7_:Sl) (i8:Int) (h:H):zwH S K X0 (WM s7_ i8) h=zjV S K X0 s7_ i8 h:=by kernel_rfl
theorem zoc (S:SatT) (K:KT) (s7_:Sl) (I_:Int→H→Prop) (m_:Int→H→Nat)
  (hs:∀(X0:XT) (i8:Int) (h:H),I_ i8 h→(∀(i8':Int) (h':H),I_ i8' h'→m_ i8' h'<m_ i8 h→X0 (WM s7_ i8') h')→zjV S K X0 s7_ i8 h) (i8:Int) {h:H} (h0:I_ i8 h):zjW S K s7_ i8 h:=
 zg (σ :=(Int)) (fun s_=>WM s7_ (s_)) (fun s_ h=>I_ (s_) h) (fun s_ h=>m_ (s_) h)
  (fun X s_ h hi hx=>(zod S K X s7_ (s_) h).mpr (hs X (s_) h hi fun i8' h' hi' hm'=>hx (i8') h' hi' hm')) (i8) h0
def WL (S:SatT) (K:KT) (x0:Sl) (x1:Int) (h:H):Prop:=
 bif (decide (x1<(0))) then
 False
 else
 callV S zlO [.int .u64 (IntKind.wrap .u64 ((x0.len:Int))),.int .u64 (IntKind.wrap .u64 (x1))] h fun v1 h0=>
 viaT v1 fun vs2=>
 exI .u64 vs2 0 fun n3=>
 viaT v1 fun vs4=>
 exI .u64 vs4 1 fun n5=>
 bif (decide (n3>(0))) then
 False
 else
 bif (decide (n5>(9223372036854775807))) then
 False
 else
 mkS (w64 (n5)) [.int .i64 (0)] h0 fun s6 h7=>
 zaP s6 x0 1 h7 fun n8 h9=>
 zjW S K s6 n8 h9
theorem QM (S:SatT) (K:KT) (x0:Sl) (x1:Int) (h:H):cwp S tab zbI [] (za Tryz.f156) (kFun tab Tryz.f156.results.toList K) (fr0 Tryz.f156 [.sl x0,.int .i64 x1]) h=WL S K x0 x1 h:=by kernel_rfl
theorem zwI (x0:Sl) (x1:Int) (h:H) (K:Sl→H→Prop) (hm:WL (Sat Tryz.prog) (fun v h'=>∃r,v = .sl r∧K r h') x0 x1 h):callS (Sat Tryz.prog) zrD [.sl x0,.int .i64 x1] h K:=by
 have:=Sat.ex tok mixed zbI Tryz.func156 (c:=za Tryz.f156) (by kernel_rfl) (zd Tryz.func156 (c:=za Tryz.f156) (by kernel_rfl) (by decide)) ((QM _ _ x0 x1 h).mpr hm)
 obtain ⟨v,h2,h3,r,rfl,h4⟩:=this;exact ⟨r,h2,h3,h4⟩
def zbP:Nat→List Nat:=fun i=>bif i==0 then [0,1,6,7,8] else []
def zEg (S:SatT) (K:KT):Kont:=kSeq (cwp S tab zbP [] (sq Tryz.f135 3 7) (kFun tab (Tryz.f135).results.toList K)) (kFun tab (Tryz.f135).results.toList K)
def Vq (p0_:Pt) (i1:Int) (p6_:Pt) (s7_:Sl) (i8:Int):Frame:=(.ptr p0_ :: .int .i64 i1::uu 4 (.ptr p6_ :: .sl s7_ :: .int .i64 i8::uu 15 []))
def zyh (S:SatT) (K:KT):(XT)→XT:=fun X fr h=>cwp S tab zbP (zbP 0) (sq Tryz.f135 6 52) (kSeq (fun fr h=>X (mask (zbP 0) fr) h) (kBlk 0 (zEg S K))) fr h
def zyj (S:SatT) (K:KT) (p0_:Pt) (i1:Int) (p6_:Pt) (s7_:Sl) (i8:Int) (h:H):Prop:=zs (zyh S K) (Vq p0_ i1 p6_ s7_ i8) h
def zyk (S:SatT) (K:KT) (i1:Int) (p6_:Pt) (s7_:Sl) (h:H):Prop:=
 callA S zbu [.int .i64 i1,.sl s7_] h fun cs1 h0=>
 stN p6_ 2 cs1 h0 fun h2=>
 ldA p6_ 2 h2 fun cs3=>
 K (.agg cs3) h2
def zkm (S:SatT) (K:KT) (X0:XT) (p0_:Pt) (i1:Int) (p6_:Pt) (s7_:Sl) (i8:Int) (h:H):Prop:=
 bif (decide (i8>(0))) then
 callA S zlV [.ptr p0_,.int .i64 i1] h fun cs1 h0=>
 lenA cs1 4 (
 newS 1 4 (spl [.int .i64 (0),.int .i64 (0),.int .i64 (0),.int .i64 (0)] 0 4 cs1) h0 fun s2 h3=>
 app s7_ s2 4 h3 fun s4 h5=>
 X0 (Vq p0_ i1 p6_ s4 (w64 (i8-(1)))) h5)
 else
 zyk S K i1 p6_ s7_ h
theorem zoA (S:SatT) (K:KT) (X0:XT) (p0_:Pt) (i1:Int) (p6_:Pt) (s7_:Sl) (i8:Int) (h:H):zyh S K X0 (Vq p0_ i1 p6_ s7_ i8) h=zkm S K X0 p0_ i1 p6_ s7_ i8 h:=by kernel_rfl
theorem zoz (S:SatT) (K:KT) (p0_:Pt) (i1:Int) (p6_:Pt) (I_:Sl→Int→H→Prop) (m_:Sl→Int→H→Nat)
  (hs:∀(X0:XT) (s7_:Sl) (i8:Int) (h:H),I_ s7_ i8 h→(∀(s7_':Sl) (i8':Int) (h':H),I_ s7_' i8' h'→m_ s7_' i8' h'<m_ s7_ i8 h→X0 (Vq p0_ i1 p6_ s7_' i8') h')→zkm S K X0 p0_ i1 p6_ s7_ i8 h) (s7_:Sl) (i8:Int) {h:H} (h0:I_ s7_ i8 h):zyj S K p0_ i1 p6_ s7_ i8 h:=
 zg (σ :=(Sl)×(Int)) (fun s_=>Vq p0_ i1 p6_ (s_.1) (s_.2)) (fun s_ h=>I_ (s_.1) (s_.2) h) (fun s_ h=>m_ (s_.1) (s_.2) h)
  (fun X s_ h hi hx=>(zoA S K X p0_ i1 p6_ (s_.1) (s_.2) h).mpr (hs X (s_.1) (s_.2) h hi fun s7_' i8' h' hi' hm'=>hx (s7_',i8') h' hi' hm')) (s7_,i8) h0
def Vp (S:SatT) (K:KT) (x0:Pt) (x1 x2:Int) (h:H):Prop:=
 newO [.int .i64 (0),.sl Sl.nil] h fun p0 h1=>
 newS 0 4 [] h1 fun s2 h3=>
 zyj S K x0 x1 p0 s2 x2 h3
theorem zae (S:SatT) (K:KT) (x0:Pt) (x1 x2:Int) (h:H):cwp S tab zbP [] (za Tryz.f135) (kFun tab Tryz.f135.results.toList K) (fr0 Tryz.f135 [.ptr x0,.int .i64 x1,.int .i64 x2]) h=Vp S K x0 x1 x2 h:=by kernel_rfl
theorem zyi (x0:Pt) (x1 x2:Int) (h:H) (K:List AVal→H→Prop) (hm:Vp (Sat Tryz.prog) (fun v h'=>∃r,v = .agg r∧K r h') x0 x1 x2 h):callA (Sat Tryz.prog) YX [.ptr x0,.int .i64 x1,.int .i64 x2] h K:=by
 have:=Sat.ex tok mixed zbP Tryz.func135 (c:=za Tryz.f135) (by kernel_rfl) (zd Tryz.func135 (c:=za Tryz.f135) (by kernel_rfl) (by decide)) ((zae _ _ x0 x1 x2 h).mpr hm)
 obtain ⟨v,h2,h3,r,rfl,h4⟩:=this;exact ⟨r,h2,h3,h4⟩
def zbL:Nat→List Nat:=fun i=>bif i==0 then [0,1,5,6] else []
def zEb (S:SatT) (K:KT):Kont:=kSeq (cwp S tab zbL [] (sq Tryz.f144 3 7) (kFun tab (Tryz.f144).results.toList K)) (kFun tab (Tryz.f144).results.toList K)
def Vc (p0_:Pt) (i1:Int) (s5_:Sl) (i6:Int):Frame:=(.ptr p0_ :: .int .i64 i1::U::U::U :: .sl s5_ :: .int .i64 i6::uu 23 [])
def zxI (S:SatT) (K:KT):(XT)→XT:=fun X fr h=>cwp S tab zbL (zbL 0) (sq Tryz.f144 6 52) (kSeq (fun fr h=>X (mask (zbL 0) fr) h) (kBlk 0 (zEb S K))) fr h
def zxK (S:SatT) (K:KT) (p0_:Pt) (i1:Int) (s5_:Sl) (i6:Int) (h:H):Prop:=zs (zxI S K) (Vc p0_ i1 s5_ i6) h
def zLl (S:SatT) (K:KT) (s5_:Sl) (h:H):Prop:=
 K (.sl s5_) h
def zkg (S:SatT) (K:KT) (X0:XT) (p0_:Pt) (i1:Int) (s5_:Sl) (i6:Int) (h:H):Prop:=
 bif (decide (i6<i1)) then
 callI S .i64 zZ [.ptr p0_,.int .i64 (w64 (i6+(1)))] h fun n1 h0=>
 vp 12 h0 fun h2=>
 cut s5_ 1 (0) n1 h2 fun s3=>
 callS S zhl [.sl s3] h2 fun s5 h4=>
 cut s5_ 1 n1 (s5_.len:Int) h4 fun s6=>
 okS h2 s5_∧(
 vj 1 1 [.int .i64 i6] h4 (h0.length+5) fun s7 h8=>
 okS h4 s5_∧(
 okS h8 s5_∧(
 okS h8 s5_∧(
 app s5 s7 1 h8 fun s9 h10=>
 okS h10 s5_∧(
 app s9 s6 1 h10 fun s11 h12=>
 X0 (Vc p0_ i1 s11 (w64 (i6+(1)))) h12)))))
 else
 zLl S K s5_ h
theorem zoo (S:SatT) (K:KT) (X0:XT) (p0_:Pt) (i1:Int) (s5_:Sl) (i6:Int) (h:H):zxI S K X0 (Vc p0_ i1 s5_ i6) h=zkg S K X0 p0_ i1 s5_ i6 h:=by kernel_rfl
theorem zon (S:SatT) (K:KT) (p0_:Pt) (i1:Int) (I_:Sl→Int→H→Prop) (m_:Sl→Int→H→Nat)
  (hs:∀(X0:XT) (s5_:Sl) (i6:Int) (h:H),I_ s5_ i6 h→(∀(s5_':Sl) (i6':Int) (h':H),I_ s5_' i6' h'→m_ s5_' i6' h'<m_ s5_ i6 h→X0 (Vc p0_ i1 s5_' i6') h')→zkg S K X0 p0_ i1 s5_ i6 h) (s5_:Sl) (i6:Int) {h:H} (h0:I_ s5_ i6 h):zxK S K p0_ i1 s5_ i6 h:=
 zg (σ :=(Sl)×(Int)) (fun s_=>Vc p0_ i1 (s_.1) (s_.2)) (fun s_ h=>I_ (s_.1) (s_.2) h) (fun s_ h=>m_ (s_.1) (s_.2) h)
  (fun X s_ h hi hx=>(zoo S K X p0_ i1 (s_.1) (s_.2) h).mpr (hs X (s_.1) (s_.2) h hi fun s5_' i6' h' hi' hm'=>hx (s5_',i6') h' hi' hm')) (s5_,i6) h0
def Vb (S:SatT) (K:KT) (x0:Pt) (x1:Int) (h:H):Prop:=
 newS 0 1 [] h fun s0 h1=>
 zxK S K x0 x1 s0 (0) h1
theorem Q6 (S:SatT) (K:KT) (x0:Pt) (x1:Int) (h:H):cwp S tab zbL [] (za Tryz.f144) (kFun tab Tryz.f144.results.toList K) (fr0 Tryz.f144 [.ptr x0,.int .i64 x1]) h=Vb S K x0 x1 h:=by kernel_rfl
theorem zxJ (x0:Pt) (x1:Int) (h:H) (K:Sl→H→Prop) (hm:Vb (Sat Tryz.prog) (fun v h'=>∃r,v = .sl r∧K r h') x0 x1 h):callS (Sat Tryz.prog) zrI [.ptr x0,.int .i64 x1] h K:=by
 have:=Sat.ex tok mixed zbL Tryz.func144 (c:=za Tryz.f144) (by kernel_rfl) (zd Tryz.func144 (c:=za Tryz.f144) (by kernel_rfl) (by decide)) ((Q6 _ _ x0 x1 h).mpr hm)
 obtain ⟨v,h2,h3,r,rfl,h4⟩:=this;exact ⟨r,h2,h3,h4⟩
def zbO:Nat→List Nat:=fun i=>bif i==0 then [1,5,7,8] else []
def zEf (S:SatT) (K:KT):Kont:=kSeq (cwp S tab zbO [] (sq Tryz.f136 3 7) (kFun tab (Tryz.f136).results.toList K)) (kFun tab (Tryz.f136).results.toList K)
def Vo (i1:Int) (s5_:Sl) (i7 i8:Int):Frame:=(U :: .int .i64 i1::U::U::U :: .sl s5_::U :: .int .i64 i7 :: .int .i64 i8::uu 9 [])
def zyd (S:SatT) (K:KT):(XT)→XT:=fun X fr h=>cwp S tab zbO (zbO 0) (sq Tryz.f136 6 52) (kSeq (fun fr h=>X (mask (zbO 0) fr) h) (kBlk 0 (zEf S K))) fr h
def zyf (S:SatT) (K:KT) (i1:Int) (s5_:Sl) (i7 i8:Int) (h:H):Prop:=zs (zyd S K) (Vo i1 s5_ i7 i8) h
def zyg (S:SatT) (K:KT) (s5_:Sl) (h:H):Prop:=
 K (.sl s5_) h
def zkl (S:SatT) (K:KT) (X0:XT) (i1:Int) (s5_:Sl) (i7 i8:Int) (h:H):Prop:=
 bif (decide (i8<i7)) then
 newS 1 1 [.int .i64 (-1)] h fun s0 h1=>
 callS S zrD [.sl s0,.int .i64 i1] h1 fun s3 h2=>
 newS 1 1 [.sl s3] h2 fun s4 h5=>
 app s5_ s4 1 h5 fun s6 h7=>
 X0 (Vo i1 s6 i7 (w64 (i8+(1)))) h7
 else
 zyg S K s5_ h
theorem zoy (S:SatT) (K:KT) (X0:XT) (i1:Int) (s5_:Sl) (i7 i8:Int) (h:H):zyd S K X0 (Vo i1 s5_ i7 i8) h=zkl S K X0 i1 s5_ i7 i8 h:=by kernel_rfl
theorem zox (S:SatT) (K:KT) (i1 i7:Int) (I_:Sl→Int→H→Prop) (m_:Sl→Int→H→Nat)
  (hs:∀(X0:XT) (s5_:Sl) (i8:Int) (h:H),I_ s5_ i8 h→(∀(s5_':Sl) (i8':Int) (h':H),I_ s5_' i8' h'→m_ s5_' i8' h'<m_ s5_ i8 h→X0 (Vo i1 s5_' i7 i8') h')→zkl S K X0 i1 s5_ i7 i8 h) (s5_:Sl) (i8:Int) {h:H} (h0:I_ s5_ i8 h):zyf S K i1 s5_ i7 i8 h:=
 zg (σ :=(Sl)×(Int)) (fun s_=>Vo i1 (s_.1) i7 (s_.2)) (fun s_ h=>I_ (s_.1) (s_.2) h) (fun s_ h=>m_ (s_.1) (s_.2) h)
  (fun X s_ h hi hx=>(zoy S K X i1 (s_.1) i7 (s_.2) h).mpr (hs X (s_.1) (s_.2) h hi fun s5_' i8' h' hi' hm'=>hx (s5_',i8') h' hi' hm')) (s5_,i8) h0
def Vn (S:SatT) (K:KT) (x0 x1:Int) (h:H):Prop:=
 newS 0 1 [] h fun s0 h1=>
 zyf S K x1 s0 x0 (0) h1
theorem zad (S:SatT) (K:KT) (x0 x1:Int) (h:H):cwp S tab zbO [] (za Tryz.f136) (kFun tab Tryz.f136.results.toList K) (fr0 Tryz.f136 [.int .i64 x0,.int .i64 x1]) h=Vn S K x0 x1 h:=by kernel_rfl
theorem zye (x0 x1:Int) (h:H) (K:Sl→H→Prop) (hm:Vn (Sat Tryz.prog) (fun v h'=>∃r,v = .sl r∧K r h') x0 x1 h):callS (Sat Tryz.prog) zrM [.int .i64 x0,.int .i64 x1] h K:=by
 have:=Sat.ex tok mixed zbO Tryz.func136 (c:=za Tryz.f136) (by kernel_rfl) (zd Tryz.func136 (c:=za Tryz.f136) (by kernel_rfl) (by decide)) ((zad _ _ x0 x1 h).mpr hm)
 obtain ⟨v,h2,h3,r,rfl,h4⟩:=this;exact ⟨r,h2,h3,h4⟩
def znI:Nat→List Nat:=fun i=>bif i==0 then [1,4] else []
def zJq (S:SatT) (K:KT):Kont:=kSeq (cwp S tab znI [] (sq Tryz.f44 4 15) (kFun tab (Tryz.f44).results.toList K)) (kFun tab (Tryz.f44).results.toList K)
def zhM (p1_:Pt) (i4:Int):Frame:=(U :: .ptr p1_::U::U :: .int .i64 i4::uu 17 [])
def zGF (S:SatT) (K:KT):(XT)→XT:=fun X fr h=>cwp S tab znI (znI 0) (sq Tryz.f44 6 56) (kSeq (fun fr h=>X (mask (znI 0) fr) h) (kBlk 0 (zJq S K))) fr h
def zGG (S:SatT) (K:KT) (p1_:Pt) (i4:Int) (h:H):Prop:=zs (zGF S K) (zhM p1_ i4) h
def zug (S:SatT) (K:KT) (i4:Int) (h:H):Prop:=
 K (.tuple [.int .i64 i4,.int .i64 (0)]) h
def zuf (S:SatT) (K:KT) (X0:XT) (p1_:Pt) (i4:Int) (h:H):Prop:=
 bif (decide (i4<(5))) then
 ldA p1_ 2 h fun cs0=>
 callI S .i64 zrq [.agg cs0,.int .i64 (w64 (i4+(1))),.int .i64 (w64 (i4+(1)))] h fun n2 h1=>
 bif (decide (n2>(0))) then
 X0 (zhM p1_ (w64 (i4+(1)))) h1
 else
 zug S K i4 h1
 else
 zug S K i4 h
theorem zue (S:SatT) (K:KT) (X0:XT) (p1_:Pt) (i4:Int) (h:H):zGF S K X0 (zhM p1_ i4) h=zuf S K X0 p1_ i4 h:=by kernel_rfl
theorem zud (S:SatT) (K:KT) (p1_:Pt) (I_:Int→H→Prop) (m_:Int→H→Nat)
  (hs:∀(X0:XT) (i4:Int) (h:H),I_ i4 h→(∀(i4':Int) (h':H),I_ i4' h'→m_ i4' h'<m_ i4 h→X0 (zhM p1_ i4') h')→zuf S K X0 p1_ i4 h) (i4:Int) {h:H} (h0:I_ i4 h):zGG S K p1_ i4 h:=
 zg (σ :=(Int)) (fun s_=>zhM p1_ (s_)) (fun s_ h=>I_ (s_) h) (fun s_ h=>m_ (s_) h)
  (fun X s_ h hi hx=>(zue S K X p1_ (s_) h).mpr (hs X (s_) h hi fun i4' h' hi' hm'=>hx (i4') h' hi' hm')) (i4) h0
def zdY (S:SatT) (K:KT) (x0:List AVal) (h:H):Prop:=
 newK 2 x0 h fun p0 h1=>
 ldA p0 2 h1 fun cs2=>
 callB S zcy [.agg cs2] h1 fun b4 h3=>
 bif (!b4) then
 K (.tuple [.int .i64 (0),.int .i64 (1)]) h3
 else
 zGG S K p0 (0) h3
theorem zdX (S:SatT) (K:KT) (x0:List AVal) (h:H):cwp S tab znI [] (za Tryz.f44) (kFun tab Tryz.f44.results.toList K) (fr0 Tryz.f44 [.agg x0]) h=zdY S K x0 h:=by kernel_rfl
theorem zCS (x0:List AVal) (h:H) (K:KT) (hm:zdY (Sat Tryz.prog) (fun v h'=>K v h') x0 h):callV (Sat Tryz.prog) zIN [.agg x0] h K:=by
 have:=Sat.ex tok mixed znI Tryz.func44 (c:=za Tryz.f44) (by kernel_rfl) (zd Tryz.func44 (c:=za Tryz.f44) (by kernel_rfl) (by decide)) ((zdX _ _ x0 h).mpr hm)
 exact this
def znK:Nat→List Nat:=fun i=>bif i==0 then [0,1,5] else []
def zJt (S:SatT) (K:KT):Kont:=kSeq (cwp S tab znK [] (sq Tryz.f36 3 7) (kFun tab (Tryz.f36).results.toList K)) (kFun tab (Tryz.f36).results.toList K)
def zhP (s0_ s1_:Sl) (i5:Int):Frame:=(.sl s0_ :: .sl s1_::U::U::U :: .int .i64 i5::uu 20 [])
def zGJ (S:SatT) (K:KT):(XT)→XT:=fun X fr h=>cwp S tab znK (znK 0) (sq Tryz.f36 6 52) (kSeq (fun fr h=>X (mask (znK 0) fr) h) (kBlk 0 (zJt S K))) fr h
def zGK (S:SatT) (K:KT) (s0_ s1_:Sl) (i5:Int) (h:H):Prop:=zs (zGJ S K) (zhP s0_ s1_ i5) h
def zGL (S:SatT) (K:KT) (h:H):Prop:=
 K (.bool true) h
def zun (S:SatT) (K:KT) (X0:XT) (s0_ s1_:Sl) (i5:Int) (h:H):Prop:=
 bif (decide (i5<(s0_.len:Int))) then
 ixS s0_ 1 i5 fun p0=>
 ldI .i64 p0 h fun n1=>
 ixS s1_ 1 i5 fun p2=>
 ldI .i64 p2 h fun n3=>
 bif (n1 != n3) then
 K (.bool false) h
 else
 X0 (zhP s0_ s1_ (w64 (i5+(1)))) h
 else
 zGL S K h
theorem zum (S:SatT) (K:KT) (X0:XT) (s0_ s1_:Sl) (i5:Int) (h:H):zGJ S K X0 (zhP s0_ s1_ i5) h=zun S K X0 s0_ s1_ i5 h:=by kernel_rfl
theorem zul (S:SatT) (K:KT) (s0_ s1_:Sl) (I_:Int→H→Prop) (m_:Int→H→Nat)
  (hs:∀(X0:XT) (i5:Int) (h:H),I_ i5 h→(∀(i5':Int) (h':H),I_ i5' h'→m_ i5' h'<m_ i5 h→X0 (zhP s0_ s1_ i5') h')→zun S K X0 s0_ s1_ i5 h) (i5:Int) {h:H} (h0:I_ i5 h):zGK S K s0_ s1_ i5 h:=
 zg (σ :=(Int)) (fun s_=>zhP s0_ s1_ (s_)) (fun s_ h=>I_ (s_) h) (fun s_ h=>m_ (s_) h)
  (fun X s_ h hi hx=>(zum S K X s0_ s1_ (s_) h).mpr (hs X (s_) h hi fun i5' h' hi' hm'=>hx (i5') h' hi' hm')) (i5) h0
def zeo (S:SatT) (K:KT) (x0 x1:Sl) (h:H):Prop:=
 bif ((x0.len:Int) != (x1.len:Int)) then
 K (.bool false) h
 else
 zGK S K x0 x1 (0) h
theorem zen (S:SatT) (K:KT) (x0 x1:Sl) (h:H):cwp S tab znK [] (za Tryz.f36) (kFun tab Tryz.f36.results.toList K) (fr0 Tryz.f36 [.sl x0,.sl x1]) h=zeo S K x0 x1 h:=by kernel_rfl
theorem zDa (x0 x1:Sl) (h:H) (K:Bool→H→Prop) (hm:zeo (Sat Tryz.prog) (fun v h'=>∃r,v = .bool r∧K r h') x0 x1 h):callB (Sat Tryz.prog) zBW [.sl x0,.sl x1] h K:=by
 have:=Sat.ex tok mixed znK Tryz.func36 (c:=za Tryz.f36) (by kernel_rfl) (zd Tryz.func36 (c:=za Tryz.f36) (by kernel_rfl) (by decide)) ((zen _ _ x0 x1 h).mpr hm)
 obtain ⟨v,h2,h3,r,rfl,h4⟩:=this;exact ⟨r,h2,h3,h4⟩
def zMu:Nat→List Nat:=fun i=>[]
def zdG (S:SatT) (K:KT) (x0:Pt) (x1:List AVal) (h:H):Prop:=
 newK 2 x1 h fun p0 h1=>
 newO [.int .i64 (0),.sl Sl.nil] h1 fun p2 h3=>
 newS 0 4 [] h3 fun s4 h5=>
 isPt p0 (
 ldS (Pt.add p0 1) h5 fun s6=>
 app s4 s6 4 h5 fun s7 h8=>
 callI S .i64 zZ [.ptr x0,.int .i64 (50)] h8 fun n10 h9=>
 bif (n10==(0)) then
 newS 3 1 [.int .i64 (0),.int .i64 (7),.int .i64 (-1)] h9 fun s11 h12=>
 callI S .i64 Zi [.ptr x0,.sl s11] h12 fun n14 h13=>
 stN p2 2 [.int .i64 n14,.sl s7] h13 fun h15=>
 ldA p2 2 h15 fun cs16=>
 K (.agg cs16) h15
 else
 bif (n10==(1)) then
 isPt p0 (
 ldI .i64 (Pt.add p0 0) h9 fun n17=>
 newS 2 1 [.int .i64 (0),.int .i64 (-1)] h9 fun s18 h19=>
(cell h19 (Pt.add p0 0)=cell h9 (Pt.add p0 0))∧(
 callI S .i64 Zi [.ptr x0,.sl s18] h19 fun n21 h20=>
(cell h20 (Pt.add p0 0)=cell h9 (Pt.add p0 0))∧(
 lenA [.int .i64 n17,.int .i64 (0),.int .i64 (0),.int .i64 n21] 4 (
 newS 1 4 (spl [.int .i64 (0),.int .i64 (0),.int .i64 (0),.int .i64 (0)] 0 4 [.int .i64 n17,.int .i64 (0),.int .i64 (0),.int .i64 n21]) h20 fun s22 h23=>
 app s7 s22 4 h23 fun s24 h25=>
 isPt p0 (
 ldI .i64 (Pt.add p0 0) h25 fun n26=>
 stN p2 2 [.int .i64 n26,.sl s24] h25 fun h27=>
 ldA p2 2 h27 fun cs28=>
 K (.agg cs28) h27)))))
 else
 bif (n10==(2)) then
 isPt p0 (
 ldI .i64 (Pt.add p0 0) h9 fun n29=>
 callA S zlV [.ptr x0,.int .i64 n29] h9 fun cs31 h30=>
 lenA cs31 4 (
 newS 1 4 (spl [.int .i64 (0),.int .i64 (0),.int .i64 (0),.int .i64 (0)] 0 4 cs31) h30 fun s32 h33=>
 app s7 s32 4 h33 fun s34 h35=>
 isPt p0 (
 ldI .i64 (Pt.add p0 0) h35 fun n36=>
 stN p2 2 [.int .i64 n36,.sl s34] h35 fun h37=>
 ldA p2 2 h37 fun cs38=>
 K (.agg cs38) h37)))
 else
 bif (n10==(3)) then
 bif (decide ((s7.len:Int)>(1))) then
 ixS s7 4 (0) fun p39=>
 ldA p39 4 h9 fun cs40=>
 newO [.int .i64 (0),.int .i64 (0),.int .i64 (0),.int .i64 (0)] h9 fun p41 h42=>
 stN p41 4 cs40 h42 fun h43=>
 ixS s7 4 (1) fun p44=>
 ldA p44 4 h43 fun cs45=>
 ixS s7 4 (0) fun p46=>
 stN p46 4 cs45 h43 fun h47=>
 ldA p41 4 h47 fun cs48=>
 ixS s7 4 (1) fun p49=>
 stN p49 4 cs48 h47 fun h50=>
 isPt p0 (
 ldI .i64 (Pt.add p0 0) h50 fun n51=>
 stN p2 2 [.int .i64 n51,.sl s7] h50 fun h52=>
 ldA p2 2 h52 fun cs53=>
 K (.agg cs53) h52)
 else
 isPt p0 (
 ldI .i64 (Pt.add p0 0) h9 fun n54=>
 stN p2 2 [.int .i64 n54,.sl s7] h9 fun h55=>
 ldA p2 2 h55 fun cs56=>
 K (.agg cs56) h55)
 else
 ldA p0 2 h9 fun cs57=>
 stN p2 2 cs57 h9 fun h58=>
 ldA p2 2 h58 fun cs59=>
 K (.agg cs59) h58)
theorem zdF (S:SatT) (K:KT) (x0:Pt) (x1:List AVal) (h:H):cwp S tab zMu [] (za Tryz.f72) (kFun tab Tryz.f72.results.toList K) (fr0 Tryz.f72 [.ptr x0,.agg x1]) h=zdG S K x0 x1 h:=by kernel_rfl
theorem zCH (x0:Pt) (x1:List AVal) (h:H) (K:List AVal→H→Prop) (hm:zdG (Sat Tryz.prog) (fun v h'=>∃r,v = .agg r∧K r h') x0 x1 h):callA (Sat Tryz.prog) zBQ [.ptr x0,.agg x1] h K:=by
 have:=Sat.ex tok mixed zMu Tryz.func72 (c:=za Tryz.f72) (by kernel_rfl) (zd Tryz.func72 (c:=za Tryz.f72) (by kernel_rfl) (by decide)) ((zdF _ _ x0 x1 h).mpr hm)
 obtain ⟨v,h2,h3,r,rfl,h4⟩:=this;exact ⟨r,h2,h3,h4⟩
def zNc:Nat→List Nat:=fun i=>[]
def zfL (S:SatT) (K:KT) (x0:List AVal) (x1 x2:Sl) (x3 x4:Int) (h:H):Prop:=
 newK 2 x0 h fun p0 h1=>
 ldA p0 2 h1 fun cs2=>
 callI S .i64 znr [.agg cs2,.sl x1,.sl x2] h1 fun n4 h3=>
 bif (n4 != (0)) then
 K (.tuple [.sl Sl.nil,.int .i64 n4]) h3
 else
 callB S Wf [.int .i64 x3,.int .i64 (0),.int .i64 (w64 ((x1.len:Int)-(1)))] h3 fun b6 h5=>
 bif (!b6) then
 K (.tuple [.sl Sl.nil,.int .i64 (2)]) h5
 else
 ixS x1 1 (0) fun p7=>
 ldS p7 h5 fun s8=>
 callB S Wf [.int .i64 x4,.int .i64 (0),.int .i64 (w64 ((s8.len:Int)-(1)))] h5 fun b10 h9=>
 bif (!b10) then
 K (.tuple [.sl Sl.nil,.int .i64 (2)]) h9
 else
 ldA p0 2 h9 fun cs11=>
 callP S zhh [.agg cs11,.sl x1,.sl x2] h9 fun p13 h12=>
 ixS x1 1 (0) fun p14=>
 ldS p14 h12 fun s15=>
(cell h9 p14=cell h12 p14)∧(
 callS S zBO [.ptr p13,.int .i64 (w64 ((w64 (x3*(s15.len:Int)))+x4))] h12 fun s17 h16=>
 K (.tuple [.sl s17,.int .i64 (0)]) h16)
theorem zfK (S:SatT) (K:KT) (x0:List AVal) (x1 x2:Sl) (x3 x4:Int) (h:H):cwp S tab zNc [] (za Tryz.f31) (kFun tab Tryz.f31.results.toList K) (fr0 Tryz.f31 [.agg x0,.sl x1,.sl x2,.int .i64 x3,.int .i64 x4]) h=zfL S K x0 x1 x2 x3 x4 h:=by kernel_rfl
theorem zDL (x0:List AVal) (x1 x2:Sl) (x3 x4:Int) (h:H) (K:KT) (hm:zfL (Sat Tryz.prog) (fun v h'=>K v h') x0 x1 x2 x3 x4 h):callV (Sat Tryz.prog) zBZ [.agg x0,.sl x1,.sl x2,.int .i64 x3,.int .i64 x4] h K:=by
 have:=Sat.ex tok mixed zNc Tryz.func31 (c:=za Tryz.f31) (by kernel_rfl) (zd Tryz.func31 (c:=za Tryz.f31) (by kernel_rfl) (by decide)) ((zfK _ _ x0 x1 x2 x3 x4 h).mpr hm)
 exact this
def zMF:Nat→List Nat:=fun i=>[]
def zes (S:SatT) (K:KT) (x0:Sl) (h:H):Prop:=
 newO [.int .i64 (0),.sl Sl.nil] h fun p0 h1=>
 callP S zjn [.sl x0] h1 fun p3 h2=>
 callV S zBP [.ptr p3] h2 fun v5 h4=>
 viaT v5 fun vs6=>
 exA vs6 0 fun cs7=>
 viaT v5 fun vs8=>
 exS vs8 1 fun s9=>
 viaT v5 fun vs10=>
 exS vs10 2 fun s11=>
 newO [.int .i64 (0),.sl Sl.nil] h4 fun p12 h13=>
 stN p12 2 cs7 h13 fun h14=>
 ldA p12 2 h14 fun cs15=>
 callI S .i64 zBL [.ptr p3,.int .i64 (2)] h14 fun n17 h16=>
(range h16 p12.o p12.n p12.off 2=range h14 p12.o p12.n p12.off 2)∧(
 callI S .i64 zBL [.ptr p3,.int .i64 (2)] h16 fun n19 h18=>
(range h18 p12.o p12.n p12.off 2=range h14 p12.o p12.n p12.off 2)∧(
 stN p0 2 cs15 h18 fun h20=>
 ldA p0 2 h20 fun cs21=>
 K (.tuple [.agg cs21,.sl s9,.sl s11,.int .i64 n17,.int .i64 n19]) h20))
theorem zer (S:SatT) (K:KT) (x0:Sl) (h:H):cwp S tab zMF [] (za Tryz.f34) (kFun tab Tryz.f34.results.toList K) (fr0 Tryz.f34 [.sl x0]) h=zes S K x0 h:=by kernel_rfl
theorem zDc (x0:Sl) (h:H) (K:KT) (hm:zes (Sat Tryz.prog) (fun v h'=>K v h') x0 h):callV (Sat Tryz.prog) zBX [.sl x0] h K:=by
 have:=Sat.ex tok mixed zMF Tryz.func34 (c:=za Tryz.f34) (by kernel_rfl) (zd Tryz.func34 (c:=za Tryz.f34) (by kernel_rfl) (by decide)) ((zer _ _ x0 h).mpr hm)
 exact this
def zHv:Nat→List Nat:=fun i=>[]
def WX (S:SatT) (K:KT) (x0 x1:Int) (x2 x3:Pt) (h:H):Prop:=
 ldP x2 h fun p0=>
 nilC (.ptr p0) (
 isPt p0 (
 ldS (Pt.add p0 3) h fun s1=>
 ixS s1 1 x0 fun p2=>
 ldS p2 h fun s3=>
 bif ((s3.len:Int)==(0)) then
 K (.bool true) h
 else
 ldP x2 h fun p4=>
 nilC (.ptr p4) (
 isPt p4 (
 ldS (Pt.add p4 3) h fun s5=>
 ixS s5 1 x0 fun p6=>
 ldS p6 h fun s7=>
 ixS s7 1 x1 fun p8=>
 ldI .i64 p8 h fun n9=>
 ixA x3 4 1 x0 fun p10=>
 ldI .i64 p10 h fun n11=>
 K (.bool (n9==n11)) h))))
theorem QX (S:SatT) (K:KT) (x0 x1:Int) (x2 x3:Pt) (h:H):cwp S tab zHv [] (za Tryz.f152) (kFun tab Tryz.f152.results.toList K) (fr0 Tryz.f152 [.int .i64 x0,.int .i64 x1,.ptr x2,.ptr x3]) h=WX S K x0 x1 x2 x3 h:=by kernel_rfl
theorem zxo (x0 x1:Int) (x2 x3:Pt) (h:H) (K:Bool→H→Prop) (hm:WX (Sat Tryz.prog) (fun v h'=>∃r,v = .bool r∧K r h') x0 x1 x2 x3 h):callB (Sat Tryz.prog) qT [.int .i64 x0,.int .i64 x1,.ptr x2,.ptr x3] h K:=by
 have:=Sat.ex tok mixed zHv Tryz.func152 (c:=za Tryz.f152) (by kernel_rfl) (zd Tryz.func152 (c:=za Tryz.f152) (by kernel_rfl) (by decide)) ((QX _ _ x0 x1 x2 x3 h).mpr hm)
 obtain ⟨v,h2,h3,r,rfl,h4⟩:=this;exact ⟨r,h2,h3,h4⟩
def zMG:Nat→List Nat:=fun i=>[]
def zeu (S:SatT) (K:KT) (x0:List AVal) (x1 x2:Sl) (h:H):Prop:=
 newK 2 x0 h fun p0 h1=>
 ldA p0 2 h1 fun cs2=>
 callI S .i64 znr [.agg cs2,.sl x1,.sl x2] h1 fun n4 h3=>
 bif (n4 != (0)) then
 K (.tuple [.int .i64 (0),.int .i64 n4]) h3
 else
 ldA p0 2 h3 fun cs5=>
 callP S zhh [.agg cs5,.sl x1,.sl x2] h3 fun p7 h6=>
 callI S .i64 zBM [.ptr p7] h6 fun n9 h8=>
 callV S zBT [.int .i64 n9] h8 fun v11 h10=>
 viaT v11 fun vs12=>
 exI .i64 vs12 0 fun n13=>
 viaT v11 fun vs14=>
 exI .i64 vs14 1 fun n15=>
 K (.tuple [.int .i64 n13,.int .i64 n15]) h10
theorem zet (S:SatT) (K:KT) (x0:List AVal) (x1 x2:Sl) (h:H):cwp S tab zMG [] (za Tryz.f33) (kFun tab Tryz.f33.results.toList K) (fr0 Tryz.f33 [.agg x0,.sl x1,.sl x2]) h=zeu S K x0 x1 x2 h:=by kernel_rfl
theorem zDd (x0:List AVal) (x1 x2:Sl) (h:H) (K:KT) (hm:zeu (Sat Tryz.prog) (fun v h'=>K v h') x0 x1 x2 h):callV (Sat Tryz.prog) zBY [.agg x0,.sl x1,.sl x2] h K:=by
 have:=Sat.ex tok mixed zMG Tryz.func33 (c:=za Tryz.f33) (by kernel_rfl) (zd Tryz.func33 (c:=za Tryz.f33) (by kernel_rfl) (by decide)) ((zet _ _ x0 x1 x2 h).mpr hm)
 exact this
def zMC:Nat→List Nat:=fun i=>[]
def zei (S:SatT) (K:KT) (x0:List AVal) (x1:Int) (h:H):Prop:=
 newK 2 x0 h fun p0 h1=>
 ldA p0 2 h1 fun cs2=>
 callB S zcy [.agg cs2] h1 fun b4 h3=>
 bif (!b4) then
 K (.tuple [.int .i64 (0),.int .i64 (1)]) h3
 else
 callB S We [.int .i64 x1,.int .i64 (1),.int .i64 (4)] h3 fun b6 h5=>
 bif (!b6) then
 K (.tuple [.int .i64 (0),.int .i64 (2)]) h5
 else
 ldA p0 2 h5 fun cs7=>
 callI S .i64 zrq [.agg cs7,.int .i64 x1,.int .i64 x1] h5 fun n9 h8=>
 bif (decide (n9>(1000000000000000))) then
 K (.tuple [.int .i64 (0),.int .i64 (3)]) h8
 else
 K (.tuple [.int .i64 n9,.int .i64 (0)]) h8
theorem zeh (S:SatT) (K:KT) (x0:List AVal) (x1:Int) (h:H):cwp S tab zMC [] (za Tryz.f39) (kFun tab Tryz.f39.results.toList K) (fr0 Tryz.f39 [.agg x0,.int .i64 x1]) h=zei S K x0 x1 h:=by kernel_rfl
theorem zCX (x0:List AVal) (x1:Int) (h:H) (K:KT) (hm:zei (Sat Tryz.prog) (fun v h'=>K v h') x0 x1 h):callV (Sat Tryz.prog) zIR [.agg x0,.int .i64 x1] h K:=by
 have:=Sat.ex tok mixed zMC Tryz.func39 (c:=za Tryz.f39) (by kernel_rfl) (zd Tryz.func39 (c:=za Tryz.f39) (by kernel_rfl) (by decide)) ((zeh _ _ x0 x1 h).mpr hm)
 exact this
def zHN:Nat→List Nat:=fun i=>[]
def Qo (S:SatT) (K:KT) (x0:Int) (x1:Sl) (h:H):Prop:=
 newO [.int .i64 (0),.sl Sl.nil] h fun p0 h1=>
 callV S zrL [.int .i64 x0,.sl x1] h1 fun v3 h2=>
 viaT v3 fun vs4=>
 exA vs4 0 fun cs5=>
 viaT v3 fun vs6=>
 exB vs6 1 fun b7=>
 newO [.int .i64 (0),.sl Sl.nil] h2 fun p8 h9=>
 stN p8 2 cs5 h9 fun h10=>
 bif (!b7) then
 stN p0 2 [.int .i64 (0),.sl Sl.nil] h10 fun h11=>
 ldA p0 2 h11 fun cs12=>
 K (.tuple [.agg cs12,.int .i64 (3)]) h11
 else
 ldA p8 2 h10 fun cs13=>
 stN p0 2 cs13 h10 fun h14=>
 ldA p0 2 h14 fun cs15=>
 K (.tuple [.agg cs15,.int .i64 (0)]) h14
theorem zaJ (S:SatT) (K:KT) (x0:Int) (x1:Sl) (h:H):cwp S tab zHN [] (za Tryz.f111) (kFun tab Tryz.f111.results.toList K) (fr0 Tryz.f111 [.int .i64 x0,.sl x1]) h=Qo S K x0 x1 h:=by kernel_rfl
theorem zAi (x0:Int) (x1:Sl) (h:H) (K:KT) (hm:Qo (Sat Tryz.prog) (fun v h'=>K v h') x0 x1 h):callV (Sat Tryz.prog) zrX [.int .i64 x0,.sl x1] h K:=by
 have:=Sat.ex tok mixed zHN Tryz.func111 (c:=za Tryz.f111) (by kernel_rfl) (zd Tryz.func111 (c:=za Tryz.f111) (by kernel_rfl) (by decide)) ((zaJ _ _ x0 x1 h).mpr hm)
 exact this
def zHy:Nat→List Nat:=fun i=>[]
def W9 (S:SatT) (K:KT) (x0:Sl) (x1:AVal) (h:H):Prop:=
 callI S .i64 zrx [.sl x0,x1] h fun n1 h0=>
 K (.bool (decide (n1≥(0)))) h0
theorem Q4 (S:SatT) (K:KT) (x0:Sl) (x1:AVal) (h:H):cwp S tab zHy [] (za Tryz.f146) (kFun tab Tryz.f146.results.toList K) (fr0 Tryz.f146 [.sl x0,x1]) h=W9 S K x0 x1 h:=by kernel_rfl
theorem zxG (x0:Sl) (x1:AVal) (h:H) (K:Bool→H→Prop) (hm:W9 (Sat Tryz.prog) (fun v h'=>∃r,v = .bool r∧K r h') x0 x1 h):callB (Sat Tryz.prog) zlQ [.sl x0,x1] h K:=by
 have:=Sat.ex tok mixed zHy Tryz.func146 (c:=za Tryz.f146) (by kernel_rfl) (zd Tryz.func146 (c:=za Tryz.f146) (by kernel_rfl) (by decide)) ((Q4 _ _ x0 x1 h).mpr hm)
 obtain ⟨v,h2,h3,r,rfl,h4⟩:=this;exact ⟨r,h2,h3,h4⟩
def zHA:Nat→List Nat:=fun i=>[]
def Vh (S:SatT) (K:KT) (h:H):Prop:=
 newS 8 1 [.str (⟨#[112,108,97,105,110]⟩:ByteArray),.str (⟨#[99,104,101,115,115]⟩:ByteArray),.str (⟨#[119,105,114,101,115]⟩:ByteArray),.str (⟨#[98,101,110,100,115]⟩:ByteArray),.str (⟨#[115,117,109,115]⟩:ByteArray),.str (⟨#[99,97,114,114,121]⟩:ByteArray),.str (⟨#[119,97,108,108]⟩:ByteArray),.str (⟨#[119,104,101,101,108]⟩:ByteArray)] h fun s0 h1=>
 K (.sl s0) h1
theorem Q9 (S:SatT) (K:KT) (h:H):cwp S tab zHA [] (za Tryz.f141) (kFun tab Tryz.f141.results.toList K) (fr0 Tryz.f141 []) h=Vh S K h:=by kernel_rfl
theorem zxS (h:H) (K:Sl→H→Prop) (hm:Vh (Sat Tryz.prog) (fun v h'=>∃r,v = .sl r∧K r h') h):callS (Sat Tryz.prog) zlR [] h K:=by
 have:=Sat.ex tok mixed zHA Tryz.func141 (c:=za Tryz.f141) (by kernel_rfl) (zd Tryz.func141 (c:=za Tryz.f141) (by kernel_rfl) (by decide)) ((Q9 _ _ h).mpr hm)
 obtain ⟨v,h2,h3,r,rfl,h4⟩:=this;exact ⟨r,h2,h3,h4⟩
def zMq:Nat→List Nat:=fun i=>[]
def zdn (S:SatT) (K:KT) (x0:List AVal) (x1 x2:Sl) (h:H):Prop:=
 newK 2 x0 h fun p0 h1=>
 newO [.sl x1] h1 fun p2 h3=>
 newO [.sl x2] h3 fun p4 h5=>
 ldA p0 2 h5 fun cs6=>
 callI S .i64 zBU [.agg cs6,.func 124 [.ptr p0,.ptr p2,.ptr p4]] h5 fun n8 h7=>
 K (.int .i64 n8) h7
theorem zdm (S:SatT) (K:KT) (x0:List AVal) (x1 x2:Sl) (h:H):cwp S tab zMq [] (za Tryz.f87) (kFun tab Tryz.f87.results.toList K) (fr0 Tryz.f87 [.agg x0,.sl x1,.sl x2]) h=zdn S K x0 x1 x2 h:=by kernel_rfl
theorem zCx (x0:List AVal) (x1 x2:Sl) (h:H) (K:Int→H→Prop) (hm:zdn (Sat Tryz.prog) (fun v h'=>∃r,v = .int .i64 r∧K r h') x0 x1 x2 h):callI (Sat Tryz.prog) .i64 znr [.agg x0,.sl x1,.sl x2] h K:=by
 have:=Sat.ex tok mixed zMq Tryz.func87 (c:=za Tryz.f87) (by kernel_rfl) (zd Tryz.func87 (c:=za Tryz.f87) (by kernel_rfl) (by decide)) ((zdm _ _ x0 x1 x2 h).mpr hm)
 obtain ⟨v,h2,h3,r,rfl,h4⟩:=this;exact ⟨r,h2,h3,h4⟩
def zMA:Nat→List Nat:=fun i=>[]
def zee (S:SatT) (K:KT) (x0:List AVal) (h:H):Prop:=
 newK 2 x0 h fun p0 h1=>
 newO [.int .i64 (0),.sl Sl.nil] h1 fun p2 h3=>
 ldA p0 2 h3 fun cs4=>
 callV S zBS [.agg cs4,.func 103 []] h3 fun v6 h5=>
 viaT v6 fun vs7=>
 exA vs7 0 fun cs8=>
 viaT v6 fun vs9=>
 exI .i64 vs9 1 fun n10=>
 stN p2 2 cs8 h5 fun h11=>
 ldA p2 2 h11 fun cs12=>
 K (.tuple [.agg cs12,.int .i64 n10]) h11
theorem zed (S:SatT) (K:KT) (x0:List AVal) (h:H):cwp S tab zMA [] (za Tryz.f41) (kFun tab Tryz.f41.results.toList K) (fr0 Tryz.f41 [.agg x0]) h=zee S K x0 h:=by kernel_rfl
theorem zCV (x0:List AVal) (h:H) (K:KT) (hm:zee (Sat Tryz.prog) (fun v h'=>K v h') x0 h):callV (Sat Tryz.prog) zIP [.agg x0] h K:=by
 have:=Sat.ex tok mixed zMA Tryz.func41 (c:=za Tryz.f41) (by kernel_rfl) (zd Tryz.func41 (c:=za Tryz.f41) (by kernel_rfl) (by decide)) ((zed _ _ x0 h).mpr hm)
 exact this
def zMz:Nat→List Nat:=fun i=>[]
def zec (S:SatT) (K:KT) (x0:Sl) (h:H):Prop:=
 newO [.int .i64 (0),.sl Sl.nil] h fun p0 h1=>
 callA S zBK [.sl x0] h1 fun cs3 h2=>
 stN p0 2 cs3 h2 fun h4=>
 ldA p0 2 h4 fun cs5=>
 K (.agg cs5) h4
theorem zeb (S:SatT) (K:KT) (x0:Sl) (h:H):cwp S tab zMz [] (za Tryz.f42) (kFun tab Tryz.f42.results.toList K) (fr0 Tryz.f42 [.sl x0]) h=zec S K x0 h:=by kernel_rfl
theorem zCU (x0:Sl) (h:H) (K:List AVal→H→Prop) (hm:zec (Sat Tryz.prog) (fun v h'=>∃r,v = .agg r∧K r h') x0 h):callA (Sat Tryz.prog) zBV [.sl x0] h K:=by
 have:=Sat.ex tok mixed zMz Tryz.func42 (c:=za Tryz.f42) (by kernel_rfl) (zd Tryz.func42 (c:=za Tryz.f42) (by kernel_rfl) (by decide)) ((zeb _ _ x0 h).mpr hm)
 obtain ⟨v,h2,h3,r,rfl,h4⟩:=this;exact ⟨r,h2,h3,h4⟩
def zHr:Nat→List Nat:=fun i=>[]
def WJ (S:SatT) (K:KT) (x0:Sl) (h:H):Prop:=
 newO [.sl x0] h fun p0 h1=>
 K (.func 168 [.ptr p0]) h1
theorem QK (S:SatT) (K:KT) (x0:Sl) (h:H):cwp S tab zHr [] (za Tryz.f158) (kFun tab Tryz.f158.results.toList K) (fr0 Tryz.f158 [.sl x0]) h=WJ S K x0 h:=by kernel_rfl
theorem zwF (x0:Sl) (h:H) (K:KT) (hm:WJ (Sat Tryz.prog) (fun v h'=>K v h') x0 h):callV (Sat Tryz.prog) zrB [.sl x0] h K:=by
 have:=Sat.ex tok mixed zHr Tryz.func158 (c:=za Tryz.f158) (by kernel_rfl) (zd Tryz.func158 (c:=za Tryz.f158) (by kernel_rfl) (by decide)) ((QK _ _ x0 h).mpr hm)
 exact this
def zMx:Nat→List Nat:=fun i=>[]
def zdQ (S:SatT) (K:KT) (x0 x1 x2:Int) (h:H):Prop:=
 bif (decide (x0≥x1)) then
 K (.bool (decide (x0≤x2))) h
 else
 K (.bool false) h
theorem zdP (S:SatT) (K:KT) (x0 x1 x2:Int) (h:H):cwp S tab zMx [] (za Tryz.f65) (kFun tab Tryz.f65.results.toList K) (fr0 Tryz.f65 [.int .i64 x0,.int .i64 x1,.int .i64 x2]) h=zdQ S K x0 x1 x2 h:=by kernel_rfl
theorem zCM (x0 x1 x2:Int) (h:H) (K:Bool→H→Prop) (hm:zdQ (Sat Tryz.prog) (fun v h'=>∃r,v = .bool r∧K r h') x0 x1 x2 h):callB (Sat Tryz.prog) Wf [.int .i64 x0,.int .i64 x1,.int .i64 x2] h K:=by
 have:=Sat.ex tok mixed zMx Tryz.func65 (c:=za Tryz.f65) (by kernel_rfl) (zd Tryz.func65 (c:=za Tryz.f65) (by kernel_rfl) (by decide)) ((zdP _ _ x0 x1 x2 h).mpr hm)
 obtain ⟨v,h2,h3,r,rfl,h4⟩:=this;exact ⟨r,h2,h3,h4⟩
def zHo:Nat→List Nat:=fun i=>[]
def Wy (S:SatT) (K:KT) (x0 x1:Int) (h:H):Prop:=
 callV S zlL [.int .u64 x0,.int .u64 x1] h fun v1 h0=>
 viaT v1 fun vs2=>
 exI .u64 vs2 0 fun n3=>
 viaT v1 fun vs4=>
 exI .u64 vs4 1 fun n5=>
 K (.tuple [.int .u64 n3,.int .u64 n5]) h0
theorem QD (S:SatT) (K:KT) (x0 x1:Int) (h:H):cwp S tab zHo [] (za Tryz.f165) (kFun tab Tryz.f165.results.toList K) (fr0 Tryz.f165 [.int .u64 x0,.int .u64 x1]) h=Wy S K x0 x1 h:=by kernel_rfl
theorem zwh (x0 x1:Int) (h:H) (K:KT) (hm:Wy (Sat Tryz.prog) (fun v h'=>K v h') x0 x1 h):callV (Sat Tryz.prog) zlO [.int .u64 x0,.int .u64 x1] h K:=by
 have:=Sat.ex tok mixed zHo Tryz.func165 (c:=za Tryz.f165) (by kernel_rfl) (zd Tryz.func165 (c:=za Tryz.f165) (by kernel_rfl) (by decide)) ((QD _ _ x0 x1 h).mpr hm)
 exact this
def zMk:Nat→List Nat:=fun i=>[]
def zcH (S:SatT) (K:KT) (x0:Pt) (h:H):Prop:=
 ldI .i64 x0 h fun n0=>
 callB S Wf [.int .i64 n0,.int .i64 (1),.int .i64 (4)] h fun b2 h1=>
 K (.bool b2) h1
theorem zcG (S:SatT) (K:KT) (x0:Pt) (h:H):cwp S tab zMk [] (za Tryz.f99) (kFun tab Tryz.f99.results.toList K) (fr0 Tryz.f99 [.ptr x0]) h=zcH S K x0 h:=by kernel_rfl
theorem zCg (x0:Pt) (h:H) (K:Bool→H→Prop) (hm:zcH (Sat Tryz.prog) (fun v h'=>∃r,v = .bool r∧K r h') x0 h):callB (Sat Tryz.prog) zIF [.ptr x0] h K:=by
 have:=Sat.ex tok mixed zMk Tryz.func99 (c:=za Tryz.f99) (by kernel_rfl) (zd Tryz.func99 (c:=za Tryz.f99) (by kernel_rfl) (by decide)) ((zcG _ _ x0 h).mpr hm)
 obtain ⟨v,h2,h3,r,rfl,h4⟩:=this;exact ⟨r,h2,h3,h4⟩
def zHm:Nat→List Nat:=fun i=>[]
def Wt (S:SatT) (K:KT) (x0:Int) (h:H):Prop:=
 K (.bool (x0 != x0)) h
theorem Qz (S:SatT) (K:KT) (x0:Int) (h:H):cwp S tab zHm [] (za Tryz.f171) (kFun tab Tryz.f171.results.toList K) (fr0 Tryz.f171 [.int .i64 x0]) h=Wt S K x0 h:=by kernel_rfl
theorem zvZ (x0:Int) (h:H) (K:Bool→H→Prop) (hm:Wt (Sat Tryz.prog) (fun v h'=>∃r,v = .bool r∧K r h') x0 h):callB (Sat Tryz.prog) zlM [.int .i64 x0] h K:=by
 have:=Sat.ex tok mixed zHm Tryz.func171 (c:=za Tryz.f171) (by kernel_rfl) (zd Tryz.func171 (c:=za Tryz.f171) (by kernel_rfl) (by decide)) ((Qz _ _ x0 h).mpr hm)
 obtain ⟨v,h2,h3,r,rfl,h4⟩:=this;exact ⟨r,h2,h3,h4⟩
def f3_M:Nat→List Nat:=fun i=>[]
def zjy (S:SatT) (K:KT) (x0:Sl) (h:H):Prop:=
 K (.bool (decide ((x0.len:Int)>(4096)))) h
theorem zhO (S:SatT) (K:KT) (x0:Sl) (h:H):cwp S tab f3_M [] (za Tryz.f5) (kFun tab Tryz.f5.results.toList K) (fr0 Tryz.f5 [.sl x0]) h=zjy S K x0 h:=by kernel_rfl
theorem zJs (x0:Sl) (h:H) (K:Bool→H→Prop) (hm:zjy (Sat Tryz.prog) (fun v h'=>∃r,v = .bool r∧K r h') x0 h):callB (Sat Tryz.prog) i_f3 [.sl x0] h K:=by
 have:=Sat.ex tok mixed f3_M Tryz.func5 (c:=za Tryz.f5) (by kernel_rfl) (zd Tryz.func5 (c:=za Tryz.f5) (by kernel_rfl) (by decide)) ((zhO _ _ x0 h).mpr hm)
 obtain ⟨v,h2,h3,r,rfl,h4⟩:=this;exact ⟨r,h2,h3,h4⟩
def z7:Nat→List Nat:=fun i=>bif i==12 then [3,7,8,17,18,176,177,178,200,201] else bif i==10 then [3,7,8,17,176,177,178] else bif i==8 then [3,7,8,17] else bif i==6 then [3,7,8,10,11,12,13,90,91,102,103,104,111,112] else bif i==4 then [3,7,8,10,11,90,91,102,103,104] else bif i==2 then [3,7,8,90,91] else bif i==0 then [3,7,32,33] else []
def zJj (S:SatT) (K:KT):Kont:=kSeq (cwp S tab z7 [] (sq Tryz.f88 3 7) (kFun tab (Tryz.f88).results.toList K)) (kFun tab (Tryz.f88).results.toList K)
def zhC (p3_ p7_:Pt) (i32 i33:Int):Frame:=(U::U::U :: .ptr p3_::U::U::U :: .ptr p7_::uu 24 (.int .i64 i32 :: .int .i64 i33::uu 220 []))
def zFF (S:SatT) (K:KT):(XT)→XT:=fun X fr h=>cwp S tab z7 (z7 0) (sq Tryz.f88 6 52) (kSeq (fun fr h=>X (mask (z7 0) fr) h) (kBlk 0 (zJj S K))) fr h
def zFI (S:SatT) (K:KT) (p3_ p7_:Pt) (i32 i33:Int) (h:H):Prop:=zs (zFF S K) (zhC p3_ p7_ i32 i33) h
def zdj (S:SatT) (K:KT):Kont:=kSeq (cwp S tab z7 [] (sq Tryz.f88 8 255) (kFun tab (Tryz.f88).results.toList K)) (kFun tab (Tryz.f88).results.toList K)
def zhB (p3_ p7_:Pt) (i8 i90 i91:Int):Frame:=(U::U::U :: .ptr p3_::U::U::U :: .ptr p7_ :: .int .i64 i8::uu 81 (.int .i64 i90 :: .int .i64 i91::uu 162 []))
def zFE (S:SatT) (K:KT):(XT)→XT:=fun X fr h=>cwp S tab z7 (z7 2) (sq Tryz.f88 11 2036) (kSeq (fun fr h=>X (mask (z7 2) fr) h) (kBlk 2 (zdj S K))) fr h
def zth (S:SatT) (K:KT) (p3_ p7_:Pt) (i8 i90 i91:Int) (h:H):Prop:=zs (zFE S K) (zhB p3_ p7_ i8 i90 i91) h
def zmb (S:SatT) (K:KT) (X2:XT):Kont:=kSeq (cwp S tab z7 (z7 2) (sq Tryz.f88 14 16295) (kSeq (fun fr h=>X2 (mask (z7 2) fr) h) (kBlk 2 (zdj S K)))) (kSeq (fun fr h=>X2 (mask (z7 2) fr) h) (kBlk 2 (zdj S K)))
def zdi (S:SatT) (K:KT) (X2:XT):Kont:=kSeq (cwp S tab z7 (z7 3) (sq Tryz.f88 18 260711) (kBlk 3 (zmb S K X2))) (kBlk 3 (zmb S K X2))
def zbz (p3_ p7_:Pt) (i8 i10:Int) (s11_:Sl) (i90 i91:Int) (s102_:Sl) (i103 i104:Int):Frame:=(U::U::U :: .ptr p3_::U::U::U :: .ptr p7_ :: .int .i64 i8::U :: .int .i64 i10 :: .sl s11_::uu 78 (.int .i64 i90 :: .int .i64 i91::uu 10 (.sl s102_ :: .int .i64 i103 :: .int .i64 i104::uu 149 [])))
def zFD (S:SatT) (K:KT) (X2:XT):(XT)→XT:=fun X fr h=>cwp S tab z7 (z7 4) (sq Tryz.f88 21 2085684) (kSeq (fun fr h=>X (mask (z7 4) fr) h) (kBlk 4 (zdi S K X2))) fr h
def zFH (S:SatT) (K:KT) (X2:XT) (p3_ p7_:Pt) (i8 i10:Int) (s11_:Sl) (i90 i91:Int) (s102_:Sl) (i103 i104:Int) (h:H):Prop:=zs (zFD S K X2) (zbz p3_ p7_ i8 i10 s11_ i90 i91 s102_ i103 i104) h
def zCv (S:SatT) (K:KT) (X2 X4:XT):Kont:=kSeq (cwp S tab z7 (z7 4) (sq Tryz.f88 24 16685479) (kSeq (fun fr h=>X4 (mask (z7 4) fr) h) (kBlk 4 (zdi S K X2)))) (kSeq (fun fr h=>X4 (mask (z7 4) fr) h) (kBlk 4 (zdi S K X2)))
def zby (p3_ p7_:Pt) (i8 i10:Int) (s11_:Sl) (i12 i13:Int) (i90 i91:Int) (s102_:Sl) (i103 i104:Int) (i111 i112:Int):Frame:=(U::U::U :: .ptr p3_::U::U::U :: .ptr p7_ :: .int .i64 i8::U :: .int .i64 i10 :: .sl s11_ :: .int .i64 i12 :: .int .i64 i13::uu 76 (.int .i64 i90 :: .int .i64 i91::uu 10 (.sl s102_ :: .int .i64 i103 :: .int .i64 i104::uu 6 (.int .i64 i111 :: .int .i64 i112::uu 141 []))))
def zFC (S:SatT) (K:KT) (X2 X4:XT):(XT)→XT:=fun X fr h=>cwp S tab z7 (z7 6) (sq Tryz.f88 29 533935308) (kSeq (fun fr h=>X (mask (z7 6) fr) h) (kBlk 6 (kBlk 5 (zCv S K X2 X4)))) fr h
def zFG (S:SatT) (K:KT) (X2 X4:XT) (p3_ p7_:Pt) (i8 i10:Int) (s11_:Sl) (i12 i13:Int) (i90 i91:Int) (s102_:Sl) (i103 i104:Int) (i111 i112:Int) (h:H):Prop:=zs (zFC S K X2 X4) (zby p3_ p7_ i8 i10 s11_ i12 i13 i90 i91 s102_ i103 i104 i111 i112) h
def zFL (S:SatT) (K:KT) (X2 X4:XT) (p3_ p7_:Pt) (i8 i10:Int) (s11_:Sl) (i90 i91:Int) (s102_:Sl) (i103 i104:Int) (h:H):Prop:=
 X4 (zbz p3_ p7_ i8 i10 s11_ i90 i91 s102_ i103 (w64 (i104+(1)))) h
def ztk (S:SatT) (K:KT) (X2 X4:XT) (p3_ p7_:Pt) (i8 i10:Int) (s11_:Sl) (i90 i91:Int) (s102_:Sl) (i103 i104:Int) (h:H):Prop:=
 zFL S K X2 X4 p3_ p7_ i8 i10 s11_ i90 i91 s102_ i103 i104 h
def ztc (S:SatT) (K:KT) (X2 X4 X6:XT) (p3_ p7_:Pt) (i8 i10:Int) (s11_:Sl) (i12 i13:Int) (i90 i91:Int) (s102_:Sl) (i103 i104:Int) (i111 i112:Int) (h:H):Prop:=
 bif (decide (i112<i111)) then
 bif (i13==(0)) then
 ztk S K X2 X4 p3_ p7_ i8 i10 s11_ i90 i91 s102_ i103 i104 h
 else
 callV S Wg [.ptr p7_,.int .i64 i10,.int .i64 i12,.int .i64 i112] h fun v1 h0=>
 viaT v1 fun vs2=>
 exI .i64 vs2 0 fun n3=>
 viaT v1 fun vs4=>
 exB vs4 1 fun b5=>
 bif b5 then
 ixS s11_ 1 n3 fun p6=>
 ldI .i64 p6 h0 fun n7=>
 ixS s11_ 1 n3 fun p8=>
 st1 p8 (.int .i64 (mnI (1000000000000001) (w64 (n7+i13)))) h0 fun h9=>
 X6 (zby p3_ p7_ i8 i10 s11_ i12 i13 i90 i91 s102_ i103 i104 i111 (w64 (i112+(1)))) h9
 else
 X6 (zby p3_ p7_ i8 i10 s11_ i12 i13 i90 i91 s102_ i103 i104 i111 (w64 (i112+(1)))) h0
 else
 ztk S K X2 X4 p3_ p7_ i8 i10 s11_ i90 i91 s102_ i103 i104 h
theorem zsX (S:SatT) (K:KT) (X2 X4 X6:XT) (p3_ p7_:Pt) (i8 i10:Int) (s11_:Sl) (i12 i13:Int) (i90 i91:Int) (s102_:Sl) (i103 i104:Int) (i111 i112:Int) (h:H):zFC S K X2 X4 X6 (zby p3_ p7_ i8 i10 s11_ i12 i13 i90 i91 s102_ i103 i104 i111 i112) h=ztc S K X2 X4 X6 p3_ p7_ i8 i10 s11_ i12 i13 i90 i91 s102_ i103 i104 i111 i112 h:=by kernel_rfl
theorem zsS (S:SatT) (K:KT) (X2 X4:XT) (p3_ p7_:Pt) (i8 i10:Int) (s11_:Sl) (i12 i13:Int) (i90 i91:Int) (s102_:Sl) (i103 i104 i111:Int) (I_:Int→H→Prop) (m_:Int→H→Nat)
  (hs:∀(X6:XT) (i112:Int) (h:H),I_ i112 h→(∀(i112':Int) (h':H),I_ i112' h'→m_ i112' h'<m_ i112 h→X6 (zby p3_ p7_ i8 i10 s11_ i12 i13 i90 i91 s102_ i103 i104 i111 i112') h')→ztc S K X2 X4 X6 p3_ p7_ i8 i10 s11_ i12 i13 i90 i91 s102_ i103 i104 i111 i112 h) (i112:Int) {h:H} (h0:I_ i112 h):zFG S K X2 X4 p3_ p7_ i8 i10 s11_ i12 i13 i90 i91 s102_ i103 i104 i111 i112 h:=
 zg (σ :=(Int)) (fun s_=>zby p3_ p7_ i8 i10 s11_ i12 i13 i90 i91 s102_ i103 i104 i111 (s_)) (fun s_ h=>I_ (s_) h) (fun s_ h=>m_ (s_) h)
  (fun X s_ h hi hx=>(zsX S K X2 X4 X p3_ p7_ i8 i10 s11_ i12 i13 i90 i91 s102_ i103 i104 i111 (s_) h).mpr (hs X (s_) h hi fun i112' h' hi' hm'=>hx (i112') h' hi' hm')) (i112) h0
def zFN (S:SatT) (K:KT) (X2:XT) (p3_ p7_:Pt) (i8 i90 i91:Int) (h:H):Prop:=
 X2 (zhB p3_ p7_ i8 i90 (w64 (i91+(1)))) h
def zFM (S:SatT) (K:KT) (X2:XT) (p3_ p7_:Pt) (i8:Int) (s11_:Sl) (i90 i91:Int) (h:H):Prop:=
 nilC (.ptr p7_) (
 isPt p7_ (
 ldS (Pt.add p7_ 5) h fun s0=>
 newS 1 1 [.sl s11_] h fun s1 h2=>
 app s0 s1 1 h2 fun s3 h4=>
 nilC (.ptr p7_) (
 isPt p7_ (
 st1 (Pt.add p7_ 5) (.sl s3) h4 fun h5=>
 zFN S K X2 p3_ p7_ i8 i90 i91 h5))))
def ztd (S:SatT) (K:KT) (X2 X4:XT) (p3_ p7_:Pt) (i8 i10:Int) (s11_:Sl) (i90 i91:Int) (s102_:Sl) (i103 i104:Int) (h:H):Prop:=
 bif (decide (i104<i103)) then
 ixS s102_ 1 i104 fun p0=>
 ldI .i64 p0 h fun n1=>
 isPt p3_ (
 ldS (Pt.add p3_ 1) h fun s2=>
 zFG S K X2 X4 p3_ p7_ i8 i10 s11_ i104 n1 i90 i91 s102_ i103 i104 (s2.len:Int) (0) h)
 else
 zFM S K X2 p3_ p7_ i8 s11_ i90 i91 h
theorem zsY (S:SatT) (K:KT) (X2 X4:XT) (p3_ p7_:Pt) (i8 i10:Int) (s11_:Sl) (i90 i91:Int) (s102_:Sl) (i103 i104:Int) (h:H):zFD S K X2 X4 (zbz p3_ p7_ i8 i10 s11_ i90 i91 s102_ i103 i104) h=ztd S K X2 X4 p3_ p7_ i8 i10 s11_ i90 i91 s102_ i103 i104 h:=by kernel_rfl
theorem zsT (S:SatT) (K:KT) (X2:XT) (p3_ p7_:Pt) (i8 i10:Int) (s11_:Sl) (i90 i91:Int) (s102_:Sl) (i103:Int) (I_:Int→H→Prop) (m_:Int→H→Nat)
  (hs:∀(X4:XT) (i104:Int) (h:H),I_ i104 h→(∀(i104':Int) (h':H),I_ i104' h'→m_ i104' h'<m_ i104 h→X4 (zbz p3_ p7_ i8 i10 s11_ i90 i91 s102_ i103 i104') h')→ztd S K X2 X4 p3_ p7_ i8 i10 s11_ i90 i91 s102_ i103 i104 h) (i104:Int) {h:H} (h0:I_ i104 h):zFH S K X2 p3_ p7_ i8 i10 s11_ i90 i91 s102_ i103 i104 h:=
 zg (σ :=(Int)) (fun s_=>zbz p3_ p7_ i8 i10 s11_ i90 i91 s102_ i103 (s_)) (fun s_ h=>I_ (s_) h) (fun s_ h=>m_ (s_) h)
  (fun X s_ h hi hx=>(zsY S K X2 X p3_ p7_ i8 i10 s11_ i90 i91 s102_ i103 (s_) h).mpr (hs X (s_) h hi fun i104' h' hi' hm'=>hx (i104') h' hi' hm')) (i104) h0
def zdh (S:SatT) (K:KT):Kont:=kSeq (cwp S tab z7 [] (sq Tryz.f88 10 1023) (kFun tab (Tryz.f88).results.toList K)) (kFun tab (Tryz.f88).results.toList K)
def zhA (p3_ p7_:Pt) (i8 i17:Int):Frame:=(U::U::U :: .ptr p3_::U::U::U :: .ptr p7_ :: .int .i64 i8::uu 8 (.int .i64 i17::uu 236 []))
def zFB (S:SatT) (K:KT):(XT)→XT:=fun X fr h=>cwp S tab z7 (z7 8) (sq Tryz.f88 13 8180) (kSeq (fun fr h=>X (mask (z7 8) fr) h) (kBlk 8 (zdh S K))) fr h
def ztg (S:SatT) (K:KT) (p3_ p7_:Pt) (i8 i17:Int) (h:H):Prop:=zs (zFB S K) (zhA p3_ p7_ i8 i17) h
def zdg (S:SatT) (K:KT) (X8:XT):Kont:=kSeq (cwp S tab z7 (z7 8) (sq Tryz.f88 15 32723) (kSeq (fun fr h=>X8 (mask (z7 8) fr) h) (kBlk 8 (zdh S K)))) (kSeq (fun fr h=>X8 (mask (z7 8) fr) h) (kBlk 8 (zdh S K)))
def Yw (p3_ p7_:Pt) (i8 i17:Int) (s176_:Sl) (i177 i178:Int):Frame:=(U::U::U :: .ptr p3_::U::U::U :: .ptr p7_ :: .int .i64 i8::uu 8 (.int .i64 i17::uu 158 (.sl s176_ :: .int .i64 i177 :: .int .i64 i178::uu 75 [])))
def zsQ (S:SatT) (K:KT) (X8:XT):(XT)→XT:=fun X fr h=>cwp S tab z7 (z7 10) (sq Tryz.f88 20 1047116) (kSeq (fun fr h=>X (mask (z7 10) fr) h) (kBlk 10 (kBlk 9 (zdg S K X8)))) fr h
def ztj (S:SatT) (K:KT) (X8:XT) (p3_ p7_:Pt) (i8 i17:Int) (s176_:Sl) (i177 i178:Int) (h:H):Prop:=zs (zsQ S K X8) (Yw p3_ p7_ i8 i17 s176_ i177 i178) h
def zdl (S:SatT) (K:KT) (X8 X10:XT) (p3_ p7_:Pt) (i8 i17:Int) (s176_:Sl) (i177 i178:Int) (h:H):Prop:=
 X10 (Yw p3_ p7_ i8 i17 s176_ i177 (w64 (i178+(1)))) h
def zCu (S:SatT) (K:KT) (X8 X10:XT):Kont:=kSeq (cwp S tab z7 (z7 10) (sq Tryz.f88 23 8376935) (kSeq (fun fr h=>X10 (mask (z7 10) fr) h) (kBlk 10 (kBlk 9 (zdg S K X8))))) (kSeq (fun fr h=>X10 (mask (z7 10) fr) h) (kBlk 10 (kBlk 9 (zdg S K X8))))
def Zl (p3_ p7_:Pt) (i8 i17 i18:Int) (s176_:Sl) (i177 i178:Int) (i200 i201:Int):Frame:=(U::U::U :: .ptr p3_::U::U::U :: .ptr p7_ :: .int .i64 i8::uu 8 (.int .i64 i17 :: .int .i64 i18::uu 157 (.sl s176_ :: .int .i64 i177 :: .int .i64 i178::uu 21 (.int .i64 i200 :: .int .i64 i201::uu 52 []))))
def zsP (S:SatT) (K:KT) (X8 X10:XT):(XT)→XT:=fun X fr h=>cwp S tab z7 (z7 12) (sq Tryz.f88 30 1072247612) (kSeq (fun fr h=>X (mask (z7 12) fr) h) (kBlk 12 (kBlk 11 (zCu S K X8 X10)))) fr h
def zti (S:SatT) (K:KT) (X8 X10:XT) (p3_ p7_:Pt) (i8 i17 i18:Int) (s176_:Sl) (i177 i178:Int) (i200 i201:Int) (h:H):Prop:=zs (zsP S K X8 X10) (Zl p3_ p7_ i8 i17 i18 s176_ i177 i178 i200 i201) h
def zdk (S:SatT) (K:KT) (X8 X10:XT) (p3_ p7_:Pt) (i8 i17:Int) (s176_:Sl) (i177 i178:Int) (h:H):Prop:=
 zdl S K X8 X10 p3_ p7_ i8 i17 s176_ i177 i178 h
def zjt (S:SatT) (K:KT) (X8 X10 X12:XT) (p3_ p7_:Pt) (i8 i17 i18:Int) (s176_:Sl) (i177 i178:Int) (i200 i201:Int) (h:H):Prop:=
 bif (decide (i201<i200)) then
 callI S .i64 qU [.ptr p7_] h fun n1 h0=>
 bif (i17==n1) then
 zdk S K X8 X10 p3_ p7_ i8 i17 s176_ i177 i178 h0
 else
 nilC (.ptr p7_) (
 isPt p7_ (
 ldS (Pt.add p7_ 6) h0 fun s2=>
 ixS s2 1 i17 fun p3=>
 ldS p3 h0 fun s4=>
 ixS s4 1 i18 fun p5=>
 ldB p5 h0 fun b6=>
 bif b6 then
 zdk S K X8 X10 p3_ p7_ i8 i17 s176_ i177 i178 h0
 else
 callV S Wg [.ptr p7_,.int .i64 i17,.int .i64 i18,.int .i64 i201] h0 fun v8 h7=>
 viaT v8 fun vs9=>
 exI .i64 vs9 0 fun n10=>
 viaT v8 fun vs11=>
 exB vs11 1 fun b12=>
 nilC (.ptr p7_) (
 isPt p7_ (
 ldS (Pt.add p7_ 6) h7 fun s13=>
 ixS s13 1 i17 fun p14=>
 ldS p14 h7 fun s15=>
 bif b12 then
 nilC (.ptr p7_) (
 isPt p7_ (
 ldS (Pt.add p7_ 6) h7 fun s16=>
 ixS s16 1 (w64 (i17+(1))) fun p17=>
 ldS p17 h7 fun s18=>
 ixS s18 1 n10 fun p19=>
 ldB p19 h7 fun b20=>
 ixS s15 1 i18 fun p21=>
 st1 p21 (.bool b20) h7 fun h22=>
 X12 (Zl p3_ p7_ i8 i17 i18 s176_ i177 i178 i200 (w64 (i201+(1)))) h22))
 else
 ixS s15 1 i18 fun p23=>
 st1 p23 (.bool false) h7 fun h24=>
 X12 (Zl p3_ p7_ i8 i17 i18 s176_ i177 i178 i200 (w64 (i201+(1)))) h24))))
 else
 zdk S K X8 X10 p3_ p7_ i8 i17 s176_ i177 i178 h
theorem znB (S:SatT) (K:KT) (X8 X10 X12:XT) (p3_ p7_:Pt) (i8 i17 i18:Int) (s176_:Sl) (i177 i178:Int) (i200 i201:Int) (h:H):zsP S K X8 X10 X12 (Zl p3_ p7_ i8 i17 i18 s176_ i177 i178 i200 i201) h=zjt S K X8 X10 X12 p3_ p7_ i8 i17 i18 s176_ i177 i178 i200 i201 h:=by kernel_rfl
theorem znz (S:SatT) (K:KT) (X8 X10:XT) (p3_ p7_:Pt) (i8 i17 i18:Int) (s176_:Sl) (i177 i178 i200:Int) (I_:Int→H→Prop) (m_:Int→H→Nat)
  (hs:∀(X12:XT) (i201:Int) (h:H),I_ i201 h→(∀(i201':Int) (h':H),I_ i201' h'→m_ i201' h'<m_ i201 h→X12 (Zl p3_ p7_ i8 i17 i18 s176_ i177 i178 i200 i201') h')→zjt S K X8 X10 X12 p3_ p7_ i8 i17 i18 s176_ i177 i178 i200 i201 h) (i201:Int) {h:H} (h0:I_ i201 h):zti S K X8 X10 p3_ p7_ i8 i17 i18 s176_ i177 i178 i200 i201 h:=
 zg (σ :=(Int)) (fun s_=>Zl p3_ p7_ i8 i17 i18 s176_ i177 i178 i200 (s_)) (fun s_ h=>I_ (s_) h) (fun s_ h=>m_ (s_) h)
  (fun X s_ h hi hx=>(znB S K X8 X10 X p3_ p7_ i8 i17 i18 s176_ i177 i178 i200 (s_) h).mpr (hs X (s_) h hi fun i201' h' hi' hm'=>hx (i201') h' hi' hm')) (i201) h0
def zFJ (S:SatT) (K:KT) (X8:XT) (p3_ p7_:Pt) (i8 i17:Int) (h:H):Prop:=
 X8 (zhA p3_ p7_ i8 (w64 (i17-(1)))) h
def ztm (S:SatT) (K:KT) (X8:XT) (p3_ p7_:Pt) (i8 i17:Int) (h:H):Prop:=
 zFJ S K X8 p3_ p7_ i8 i17 h
def zju (S:SatT) (K:KT) (X8 X10:XT) (p3_ p7_:Pt) (i8 i17:Int) (s176_:Sl) (i177 i178:Int) (h:H):Prop:=
 bif (decide (i178<i177)) then
 ixS s176_ 1 i178 fun p0=>
 ldI .i64 p0 h fun n1=>
 bif (n1==(0)) then
 zdl S K X8 X10 p3_ p7_ i8 i17 s176_ i177 i178 h
 else
 nilC (.ptr p7_) (
 isPt p7_ (
 ldS (Pt.add p7_ 6) h fun s2=>
 ixS s2 1 i17 fun p3=>
 ldS p3 h fun s4=>
 callI S .i64 qU [.ptr p7_] h fun n6 h5=>
(cell h5 p3=cell h p3)∧(
(cell h5 (Pt.add p7_ 6)=cell h (Pt.add p7_ 6))∧(
 ixS s4 1 i178 fun p7=>
 st1 p7 (.bool (i17==n6)) h5 fun h8=>
 isPt p3_ (
 ldS (Pt.add p3_ 1) h8 fun s9=>
 zti S K X8 X10 p3_ p7_ i8 i17 i178 s176_ i177 i178 (s9.len:Int) (0) h8)))))
 else
 ztm S K X8 p3_ p7_ i8 i17 h
theorem znC (S:SatT) (K:KT) (X8 X10:XT) (p3_ p7_:Pt) (i8 i17:Int) (s176_:Sl) (i177 i178:Int) (h:H):zsQ S K X8 X10 (Yw p3_ p7_ i8 i17 s176_ i177 i178) h=zju S K X8 X10 p3_ p7_ i8 i17 s176_ i177 i178 h:=by kernel_rfl
theorem znA (S:SatT) (K:KT) (X8:XT) (p3_ p7_:Pt) (i8 i17:Int) (s176_:Sl) (i177:Int) (I_:Int→H→Prop) (m_:Int→H→Nat)
  (hs:∀(X10:XT) (i178:Int) (h:H),I_ i178 h→(∀(i178':Int) (h':H),I_ i178' h'→m_ i178' h'<m_ i178 h→X10 (Yw p3_ p7_ i8 i17 s176_ i177 i178') h')→zju S K X8 X10 p3_ p7_ i8 i17 s176_ i177 i178 h) (i178:Int) {h:H} (h0:I_ i178 h):ztj S K X8 p3_ p7_ i8 i17 s176_ i177 i178 h:=
 zg (σ :=(Int)) (fun s_=>Yw p3_ p7_ i8 i17 s176_ i177 (s_)) (fun s_ h=>I_ (s_) h) (fun s_ h=>m_ (s_) h)
  (fun X s_ h hi hx=>(znC S K X8 X p3_ p7_ i8 i17 s176_ i177 (s_) h).mpr (hs X (s_) h hi fun i178' h' hi' hm'=>hx (i178') h' hi' hm')) (i178) h0
def zFK (S:SatT) (K:KT) (p7_:Pt) (h:H):Prop:=
 K (.ptr p7_) h
def ztb (S:SatT) (K:KT) (X8:XT) (p3_ p7_:Pt) (i8 i17:Int) (h:H):Prop:=
 bif (decide (i17≥(0))) then
 nilC (.ptr p7_) (
 isPt p7_ (
 ldS (Pt.add p7_ 6) h fun s0=>
 mkS i8 [.bool false] h fun s1 h2=>
(cell h2 (Pt.add p7_ 6)=cell h (Pt.add p7_ 6))∧(
 ixS s0 1 i17 fun p3=>
 st1 p3 (.sl s1) h2 fun h4=>
 nilC (.ptr p7_) (
 isPt p7_ (
 ldS (Pt.add p7_ 5) h4 fun s5=>
 ixS s5 1 i17 fun p6=>
 ldS p6 h4 fun s7=>
 ztj S K X8 p3_ p7_ i8 i17 s7 (s7.len:Int) (0) h4)))))
 else
 zFK S K p7_ h
theorem zsW (S:SatT) (K:KT) (X8:XT) (p3_ p7_:Pt) (i8 i17:Int) (h:H):zFB S K X8 (zhA p3_ p7_ i8 i17) h=ztb S K X8 p3_ p7_ i8 i17 h:=by kernel_rfl
theorem zsR (S:SatT) (K:KT) (p3_ p7_:Pt) (i8:Int) (I_:Int→H→Prop) (m_:Int→H→Nat)
  (hs:∀(X8:XT) (i17:Int) (h:H),I_ i17 h→(∀(i17':Int) (h':H),I_ i17' h'→m_ i17' h'<m_ i17 h→X8 (zhA p3_ p7_ i8 i17') h')→ztb S K X8 p3_ p7_ i8 i17 h) (i17:Int) {h:H} (h0:I_ i17 h):ztg S K p3_ p7_ i8 i17 h:=
 zg (σ :=(Int)) (fun s_=>zhA p3_ p7_ i8 (s_)) (fun s_ h=>I_ (s_) h) (fun s_ h=>m_ (s_) h)
  (fun X s_ h hi hx=>(zsW S K X p3_ p7_ i8 (s_) h).mpr (hs X (s_) h hi fun i17' h' hi' hm'=>hx (i17') h' hi' hm')) (i17) h0
def ztl (S:SatT) (K:KT) (p3_ p7_:Pt) (i8:Int) (h:H):Prop:=
 callI S .i64 qU [.ptr p7_] h fun n1 h0=>
 mkS (w64 (n1+(1))) [.sl Sl.nil] h0 fun s2 h3=>
 nilC (.ptr p7_) (
 isPt p7_ (
 st1 (Pt.add p7_ 6) (.sl s2) h3 fun h4=>
 callI S .i64 qU [.ptr p7_] h4 fun n6 h5=>
 ztg S K p3_ p7_ i8 n6 h5))
def zte (S:SatT) (K:KT) (X2:XT) (p3_ p7_:Pt) (i8 i90 i91:Int) (h:H):Prop:=
 bif (decide (i91<i90)) then
 mkS i8 [.int .i64 (0)] h fun s0 h1=>
 nilC (.ptr p7_) (
 isPt p7_ (
 ldS (Pt.add p7_ 5) h1 fun s2=>
 ixS s2 1 i91 fun p3=>
 ldS p3 h1 fun s4=>
 zFH S K X2 p3_ p7_ i8 i91 s0 i90 i91 s4 (s4.len:Int) (0) h1))
 else
 ztl S K p3_ p7_ i8 h
theorem zsZ (S:SatT) (K:KT) (X2:XT) (p3_ p7_:Pt) (i8 i90 i91:Int) (h:H):zFE S K X2 (zhB p3_ p7_ i8 i90 i91) h=zte S K X2 p3_ p7_ i8 i90 i91 h:=by kernel_rfl
theorem zsU (S:SatT) (K:KT) (p3_ p7_:Pt) (i8 i90:Int) (I_:Int→H→Prop) (m_:Int→H→Nat)
  (hs:∀(X2:XT) (i91:Int) (h:H),I_ i91 h→(∀(i91':Int) (h':H),I_ i91' h'→m_ i91' h'<m_ i91 h→X2 (zhB p3_ p7_ i8 i90 i91') h')→zte S K X2 p3_ p7_ i8 i90 i91 h) (i91:Int) {h:H} (h0:I_ i91 h):zth S K p3_ p7_ i8 i90 i91 h:=
 zg (σ :=(Int)) (fun s_=>zhB p3_ p7_ i8 i90 (s_)) (fun s_ h=>I_ (s_) h) (fun s_ h=>m_ (s_) h)
  (fun X s_ h hi hx=>(zsZ S K X p3_ p7_ i8 i90 (s_) h).mpr (hs X (s_) h hi fun i91' h' hi' hm'=>hx (i91') h' hi' hm')) (i91) h0
def zFO (S:SatT) (K:KT) (p3_ p7_:Pt) (h:H):Prop:=
 nilC (.ptr p7_) (
 isPt p7_ (
 ldS (Pt.add p7_ 4) h fun s0=>
 nilC (.ptr p7_) (
 isPt p7_ (
 ldS (Pt.add p7_ 4) h fun s1=>
 ixS s0 1 (w64 ((s1.len:Int)-(1))) fun p2=>
 ldI .i64 p2 h fun n3=>
 isPt p3_ (
 ldI .i64 (Pt.add p3_ 0) h fun n4=>
 mkS (w64 (n3*n4)) [.int .i64 (0)] h fun s5 h6=>
 ixS s5 1 (0) fun p7=>
 st1 p7 (.int .i64 (1)) h6 fun h8=>
 nilC (.ptr p7_) (
 isPt p7_ (
 ldS (Pt.add p7_ 5) h8 fun s9=>
 newS 1 1 [.sl s5] h8 fun s10 h11=>
 app s9 s10 1 h11 fun s12 h13=>
 nilC (.ptr p7_) (
 isPt p7_ (
 st1 (Pt.add p7_ 5) (.sl s12) h13 fun h14=>
 callI S .i64 qU [.ptr p7_] h14 fun n16 h15=>
 zth S K p3_ p7_ (w64 (n3*n4)) n16 (0) h15)))))))))
def ztf (S:SatT) (K:KT) (X0:XT) (p3_ p7_:Pt) (i32 i33:Int) (h:H):Prop:=
 bif (decide (i33<i32)) then
 nilC (.ptr p7_) (
 isPt p7_ (
 ldS (Pt.add p7_ 4) h fun s0=>
 nilC (.ptr p7_) (
 isPt p7_ (
 ldS (Pt.add p7_ 4) h fun s1=>
 nilC (.ptr p7_) (
 isPt p7_ (
 ldS (Pt.add p7_ 4) h fun s2=>
 ixS s1 1 (w64 ((s2.len:Int)-(1))) fun p3=>
 ldI .i64 p3 h fun n4=>
 isPt p3_ (
 ldI .i64 (Pt.add p3_ 0) h fun n5=>
 newS 1 1 [.int .i64 (w64 (n4*n5))] h fun s6 h7=>
(cell h7 (Pt.add p7_ 4)=cell h (Pt.add p7_ 4))∧(
 app s0 s6 1 h7 fun s8 h9=>
 nilC (.ptr p7_) (
 isPt p7_ (
 st1 (Pt.add p7_ 4) (.sl s8) h9 fun h10=>
 X0 (zhC p3_ p7_ i32 (w64 (i33+(1)))) h10))))))))))
 else
 zFO S K p3_ p7_ h
theorem zta (S:SatT) (K:KT) (X0:XT) (p3_ p7_:Pt) (i32 i33:Int) (h:H):zFF S K X0 (zhC p3_ p7_ i32 i33) h=ztf S K X0 p3_ p7_ i32 i33 h:=by kernel_rfl
theorem zsV (S:SatT) (K:KT) (p3_ p7_:Pt) (i32:Int) (I_:Int→H→Prop) (m_:Int→H→Nat)
  (hs:∀(X0:XT) (i33:Int) (h:H),I_ i33 h→(∀(i33':Int) (h':H),I_ i33' h'→m_ i33' h'<m_ i33 h→X0 (zhC p3_ p7_ i32 i33') h')→ztf S K X0 p3_ p7_ i32 i33 h) (i33:Int) {h:H} (h0:I_ i33 h):zFI S K p3_ p7_ i32 i33 h:=
 zg (σ :=(Int)) (fun s_=>zhC p3_ p7_ i32 (s_)) (fun s_ h=>I_ (s_) h) (fun s_ h=>m_ (s_) h)
  (fun X s_ h hi hx=>(zta S K X p3_ p7_ i32 (s_) h).mpr (hs X (s_) h hi fun i33' h' hi' hm'=>hx (i33') h' hi' hm')) (i33) h0
def zdf (S:SatT) (K:KT) (x0:List AVal) (x1 x2:Sl) (h:H):Prop:=
 newK 2 x0 h fun p0 h1=>
 ldA p0 2 h1 fun cs2=>
 newS 1 1 [.int .i64 (1)] h1 fun s3 h4=>
 lenA cs2 2 (
 newK 7 (spl (spl (spl (spl [.int .i64 (0),.sl Sl.nil,.sl Sl.nil,.sl Sl.nil,.sl Sl.nil,.sl Sl.nil,.sl Sl.nil] 0 2 cs2) 2 1 [.sl x1]) 3 1 [.sl x2]) 4 1 [.sl s3]) h4 fun p5 h6=>
 ixS x1 1 (0) fun p7=>
 ldS p7 h6 fun s8=>
 zFI S K p0 p5 (s8.len:Int) (0) h6)
theorem zde (S:SatT) (K:KT) (x0:List AVal) (x1 x2:Sl) (h:H):cwp S tab z7 [] (za Tryz.f88) (kFun tab Tryz.f88.results.toList K) (fr0 Tryz.f88 [.agg x0,.sl x1,.sl x2]) h=zdf S K x0 x1 x2 h:=by kernel_rfl
theorem zCw (x0:List AVal) (x1 x2:Sl) (h:H) (K:Pt→H→Prop) (hm:zdf (Sat Tryz.prog) (fun v h'=>∃r,v = .ptr r∧K r h') x0 x1 x2 h):callP (Sat Tryz.prog) zhh [.agg x0,.sl x1,.sl x2] h K:=by
 have:=Sat.ex tok mixed z7 Tryz.func88 (c:=za Tryz.f88) (by kernel_rfl) (zd Tryz.func88 (c:=za Tryz.f88) (by kernel_rfl) (by decide)) ((zde _ _ x0 x1 x2 h).mpr hm)
 obtain ⟨v,h2,h3,r,rfl,h4⟩:=this;exact ⟨r,h2,h3,h4⟩
def yA:Nat→List Nat:=fun i=>bif i==4 then [0,3,5,6,7,8,9,10,11,12,13] else bif i==2 then [0,3,5,6,7,8,9,10,11] else bif i==0 then [0,3,5,6,7,8,9] else []
def zgk (S:SatT) (K:KT):Kont:=kSeq (cwp S tab yA [] (sq Tryz.f122 4 15) (kFun tab (Tryz.f122).results.toList K)) (kFun tab (Tryz.f122).results.toList K)
def Qe (p0_ p3_:Pt) (i5 i6:Int) (s7_:Sl) (i8 i9:Int):Frame:=(.ptr p0_::U::U :: .ptr p3_::U :: .int .i64 i5 :: .int .i64 i6 :: .sl s7_ :: .int .i64 i8 :: .int .i64 i9::uu 119 [])
def zzM (S:SatT) (K:KT):(XT)→XT:=fun X fr h=>cwp S tab yA (yA 0) (sq Tryz.f122 7 116) (kSeq (fun fr h=>X (mask (yA 0) fr) h) (kBlk 0 (zgk S K))) fr h
def zzR (S:SatT) (K:KT) (p0_ p3_:Pt) (i5 i6:Int) (s7_:Sl) (i8 i9:Int) (h:H):Prop:=zs (zzM S K) (Qe p0_ p3_ i5 i6 s7_ i8 i9) h
def zmM (S:SatT) (K:KT) (X0:XT):Kont:=kSeq (cwp S tab yA (yA 0) (sq Tryz.f122 9 467) (kSeq (fun fr h=>X0 (mask (yA 0) fr) h) (kBlk 0 (zgk S K)))) (kSeq (fun fr h=>X0 (mask (yA 0) fr) h) (kBlk 0 (zgk S K)))
def zgj (S:SatT) (K:KT) (X0:XT):Kont:=kSeq (cwp S tab yA (yA 1) (sq Tryz.f122 12 3731) (kBlk 1 (zmM S K X0))) (kBlk 1 (zmM S K X0))
def Qd (p0_ p3_:Pt) (i5 i6:Int) (s7_:Sl) (i8 i9:Int) (s10_:Sl) (i11:Int):Frame:=(.ptr p0_::U::U :: .ptr p3_::U :: .int .i64 i5 :: .int .i64 i6 :: .sl s7_ :: .int .i64 i8 :: .int .i64 i9 :: .sl s10_ :: .int .i64 i11::uu 117 [])
def zzL (S:SatT) (K:KT) (X0:XT):(XT)→XT:=fun X fr h=>cwp S tab yA (yA 2) (sq Tryz.f122 15 29844) (kSeq (fun fr h=>X (mask (yA 2) fr) h) (kBlk 2 (zgj S K X0))) fr h
def zzQ (S:SatT) (K:KT) (X0:XT) (p0_ p3_:Pt) (i5 i6:Int) (s7_:Sl) (i8 i9:Int) (s10_:Sl) (i11:Int) (h:H):Prop:=zs (zzL S K X0) (Qd p0_ p3_ i5 i6 s7_ i8 i9 s10_ i11) h
def zin (S:SatT) (K:KT) (X0 X2:XT):Kont:=kSeq (cwp S tab yA (yA 2) (sq Tryz.f122 17 119379) (kSeq (fun fr h=>X2 (mask (yA 2) fr) h) (kBlk 2 (zgj S K X0)))) (kSeq (fun fr h=>X2 (mask (yA 2) fr) h) (kBlk 2 (zgj S K X0)))
def zzN (S:SatT) (K:KT) (X0 X2:XT):Kont:=kSeq (cwp S tab yA (yA 3) (sq Tryz.f122 20 955027) (kBlk 3 (zin S K X0 X2))) (kBlk 3 (zin S K X0 X2))
def vS (p0_ p3_:Pt) (i5 i6:Int) (s7_:Sl) (i8 i9:Int) (s10_:Sl) (i11 i12 i13:Int):Frame:=(.ptr p0_::U::U :: .ptr p3_::U :: .int .i64 i5 :: .int .i64 i6 :: .sl s7_ :: .int .i64 i8 :: .int .i64 i9 :: .sl s10_ :: .int .i64 i11 :: .int .i64 i12 :: .int .i64 i13::uu 115 [])
def zzK (S:SatT) (K:KT) (X0 X2:XT):(XT)→XT:=fun X fr h=>cwp S tab yA (yA 4) (sq Tryz.f122 23 7640212) (kSeq (fun fr h=>X (mask (yA 4) fr) h) (kBlk 4 (zzN S K X0 X2))) fr h
def zzP (S:SatT) (K:KT) (X0 X2:XT) (p0_ p3_:Pt) (i5 i6:Int) (s7_:Sl) (i8 i9:Int) (s10_:Sl) (i11 i12 i13:Int) (h:H):Prop:=zs (zzK S K X0 X2) (vS p0_ p3_ i5 i6 s7_ i8 i9 s10_ i11 i12 i13) h
def zzS (S:SatT) (K:KT) (X0 X2:XT) (p0_ p3_:Pt) (i5 i6:Int) (s7_:Sl) (i8 i9:Int) (s10_:Sl) (i11:Int) (h:H):Prop:=
 X2 (Qd p0_ p3_ i5 i6 s7_ i8 i9 s10_ (w64 (i11+(1)))) h
def Zr (S:SatT) (K:KT) (X0 X2:XT) (p0_ p3_:Pt) (i5 i6:Int) (s7_:Sl) (i8 i9:Int) (s10_:Sl) (i11 i12:Int) (h:H):Prop:=
 newS 1 1 [.int .i64 i12] h fun s0 h1=>
 app s10_ s0 1 h1 fun s2 h3=>
 zzS S K X0 X2 p0_ p3_ i5 i6 s7_ i8 i9 s2 i11 h3
def zkO (S:SatT) (K:KT) (X0 X2 X4:XT) (p0_ p3_:Pt) (i5 i6:Int) (s7_:Sl) (i8 i9:Int) (s10_:Sl) (i11 i12 i13:Int) (h:H):Prop:=
 bif (decide (i13<i8)) then
 nz i8 (
 bif (i11==(0)) then
 bif (i9==(0)) then
 Zr S K X0 X2 p0_ p3_ i5 i6 s7_ i8 i9 s10_ i11 (Int.tmod (w64 (i12+i13)) i8) h
 else
 isPt p3_ (
 ldS (Pt.add p3_ 1) h fun s0=>
 ixS s7_ 1 (w64 (i9-(1))) fun p1=>
 ldS p1 h fun s2=>
 ixS s2 1 i11 fun p3=>
 ldI .i64 p3 h fun n4=>
 ixS s0 4 n4 fun p5=>
 ixA p5 4 1 (3) fun p6=>
 ldI .i64 p6 h fun n7=>
 isPt p3_ (
 ldS (Pt.add p3_ 1) h fun s8=>
 ixS s8 4 (Int.tmod (w64 (i12+i13)) i8) fun p9=>
 ixA p9 4 1 (1) fun p10=>
 ldI .i64 p10 h fun n11=>
 bif (n7==n11) then
 Zr S K X0 X2 p0_ p3_ i5 i6 s7_ i8 i9 s10_ i11 (Int.tmod (w64 (i12+i13)) i8) h
 else
 X4 (vS p0_ p3_ i5 i6 s7_ i8 i9 s10_ i11 i12 (w64 (i13+(1)))) h))
 else
 isPt p3_ (
 ldS (Pt.add p3_ 1) h fun s12=>
 ixS s10_ 1 (w64 (i11-(1))) fun p13=>
 ldI .i64 p13 h fun n14=>
 ixS s12 4 n14 fun p15=>
 ixA p15 4 1 (2) fun p16=>
 ldI .i64 p16 h fun n17=>
 isPt p3_ (
 ldS (Pt.add p3_ 1) h fun s18=>
 ixS s18 4 (Int.tmod (w64 (i12+i13)) i8) fun p19=>
 ixA p19 4 1 (0) fun p20=>
 ldI .i64 p20 h fun n21=>
 bif (n17==n21) then
 bif (i9==(0)) then
 Zr S K X0 X2 p0_ p3_ i5 i6 s7_ i8 i9 s10_ i11 (Int.tmod (w64 (i12+i13)) i8) h
 else
 isPt p3_ (
 ldS (Pt.add p3_ 1) h fun s22=>
 ixS s7_ 1 (w64 (i9-(1))) fun p23=>
 ldS p23 h fun s24=>
 ixS s24 1 i11 fun p25=>
 ldI .i64 p25 h fun n26=>
 ixS s22 4 n26 fun p27=>
 ixA p27 4 1 (3) fun p28=>
 ldI .i64 p28 h fun n29=>
 isPt p3_ (
 ldS (Pt.add p3_ 1) h fun s30=>
 ixS s30 4 (Int.tmod (w64 (i12+i13)) i8) fun p31=>
 ixA p31 4 1 (1) fun p32=>
 ldI .i64 p32 h fun n33=>
 bif (n29==n33) then
 Zr S K X0 X2 p0_ p3_ i5 i6 s7_ i8 i9 s10_ i11 (Int.tmod (w64 (i12+i13)) i8) h
 else
 X4 (vS p0_ p3_ i5 i6 s7_ i8 i9 s10_ i11 i12 (w64 (i13+(1)))) h))
 else
 X4 (vS p0_ p3_ i5 i6 s7_ i8 i9 s10_ i11 i12 (w64 (i13+(1)))) h)))
 else
 Zr S K X0 X2 p0_ p3_ i5 i6 s7_ i8 i9 s10_ i11 i12 h
theorem zpG (S:SatT) (K:KT) (X0 X2 X4:XT) (p0_ p3_:Pt) (i5 i6:Int) (s7_:Sl) (i8 i9:Int) (s10_:Sl) (i11 i12 i13:Int) (h:H):zzK S K X0 X2 X4 (vS p0_ p3_ i5 i6 s7_ i8 i9 s10_ i11 i12 i13) h=zkO S K X0 X2 X4 p0_ p3_ i5 i6 s7_ i8 i9 s10_ i11 i12 i13 h:=by kernel_rfl
theorem zpD (S:SatT) (K:KT) (X0 X2:XT) (p0_ p3_:Pt) (i5 i6:Int) (s7_:Sl) (i8 i9:Int) (s10_:Sl) (i11:Int) (I_:Int→Int→H→Prop) (m_:Int→Int→H→Nat)
  (hs:∀(X4:XT) (i12 i13:Int) (h:H),I_ i12 i13 h→(∀(i12' i13':Int) (h':H),I_ i12' i13' h'→m_ i12' i13' h'<m_ i12 i13 h→X4 (vS p0_ p3_ i5 i6 s7_ i8 i9 s10_ i11 i12' i13') h')→zkO S K X0 X2 X4 p0_ p3_ i5 i6 s7_ i8 i9 s10_ i11 i12 i13 h) (i12 i13:Int) {h:H} (h0:I_ i12 i13 h):zzP S K X0 X2 p0_ p3_ i5 i6 s7_ i8 i9 s10_ i11 i12 i13 h:=
 zg (σ :=(Int)×(Int)) (fun s_=>vS p0_ p3_ i5 i6 s7_ i8 i9 s10_ i11 (s_.1) (s_.2)) (fun s_ h=>I_ (s_.1) (s_.2) h) (fun s_ h=>m_ (s_.1) (s_.2) h)
  (fun X s_ h hi hx=>(zpG S K X0 X2 X p0_ p3_ i5 i6 s7_ i8 i9 s10_ i11 (s_.1) (s_.2) h).mpr (hs X (s_.1) (s_.2) h hi fun i12' i13' h' hi' hm'=>hx (i12',i13') h' hi' hm')) (i12,i13) h0
def zzU (S:SatT) (K:KT) (X0:XT) (p0_ p3_:Pt) (i5 i6:Int) (s7_:Sl) (i8 i9:Int) (h:H):Prop:=
 X0 (Qe p0_ p3_ i5 i6 s7_ i8 (w64 (i9+(1)))) h
def zzT (S:SatT) (K:KT) (X0:XT) (p0_ p3_:Pt) (i5 i6:Int) (s7_:Sl) (i8 i9:Int) (s10_:Sl) (h:H):Prop:=
 newS 1 1 [.sl s10_] h fun s0 h1=>
 app s7_ s0 1 h1 fun s2 h3=>
 zzU S K X0 p0_ p3_ i5 i6 s2 i8 i9 h3
def zkP (S:SatT) (K:KT) (X0 X2:XT) (p0_ p3_:Pt) (i5 i6:Int) (s7_:Sl) (i8 i9:Int) (s10_:Sl) (i11:Int) (h:H):Prop:=
 bif (decide (i11<i6)) then
 callI S .i64 zZ [.ptr p0_,.int .i64 i8] h fun n1 h0=>
 zzP S K X0 X2 p0_ p3_ i5 i6 s7_ i8 i9 s10_ i11 n1 (0) h0
 else
 zzT S K X0 p0_ p3_ i5 i6 s7_ i8 i9 s10_ h
theorem zpH (S:SatT) (K:KT) (X0 X2:XT) (p0_ p3_:Pt) (i5 i6:Int) (s7_:Sl) (i8 i9:Int) (s10_:Sl) (i11:Int) (h:H):zzL S K X0 X2 (Qd p0_ p3_ i5 i6 s7_ i8 i9 s10_ i11) h=zkP S K X0 X2 p0_ p3_ i5 i6 s7_ i8 i9 s10_ i11 h:=by kernel_rfl
theorem zpE (S:SatT) (K:KT) (X0:XT) (p0_ p3_:Pt) (i5 i6:Int) (s7_:Sl) (i8 i9:Int) (I_:Sl→Int→H→Prop) (m_:Sl→Int→H→Nat)
  (hs:∀(X2:XT) (s10_:Sl) (i11:Int) (h:H),I_ s10_ i11 h→(∀(s10_':Sl) (i11':Int) (h':H),I_ s10_' i11' h'→m_ s10_' i11' h'<m_ s10_ i11 h→X2 (Qd p0_ p3_ i5 i6 s7_ i8 i9 s10_' i11') h')→zkP S K X0 X2 p0_ p3_ i5 i6 s7_ i8 i9 s10_ i11 h) (s10_:Sl) (i11:Int) {h:H} (h0:I_ s10_ i11 h):zzQ S K X0 p0_ p3_ i5 i6 s7_ i8 i9 s10_ i11 h:=
 zg (σ :=(Sl)×(Int)) (fun s_=>Qd p0_ p3_ i5 i6 s7_ i8 i9 (s_.1) (s_.2)) (fun s_ h=>I_ (s_.1) (s_.2) h) (fun s_ h=>m_ (s_.1) (s_.2) h)
  (fun X s_ h hi hx=>(zpH S K X0 X p0_ p3_ i5 i6 s7_ i8 i9 (s_.1) (s_.2) h).mpr (hs X (s_.1) (s_.2) h hi fun s10_' i11' h' hi' hm'=>hx (s10_',i11') h' hi' hm')) (s10_,i11) h0
def zkR (S:SatT) (K:KT) (p0_:Pt) (s7_:Sl) (i8:Int) (h:H):Prop:=
 callI S .i64 zZ [.ptr p0_,.int .i64 (24)] h fun n1 h0=>
 bif (n1==(0)) then
 newS 0 1 [] h0 fun s2 h3=>
 newS 1 1 [.sl s2] h3 fun s4 h5=>
 app s7_ s4 1 h5 fun s6 h7=>
 K (.sl s6) h7
 else
 bif (n1==(1)) then
 ixS s7_ 1 (0) fun p8=>
 ldS p8 h0 fun s9=>
 newS 2 1 [.int .i64 (-1),.int .i64 i8] h0 fun s10 h11=>
 callI S .i64 Zi [.ptr p0_,.sl s10] h11 fun n13 h12=>
 ixS s9 1 (0) fun p14=>
 st1 p14 (.int .i64 n13) h12 fun h15=>
 K (.sl s7_) h15
 else
 bif (n1==(2)) then
 newS 0 1 [] h0 fun s16 h17=>
 K (.sl s16) h17
 else
 K (.sl s7_) h0
def zkQ (S:SatT) (K:KT) (X0:XT) (p0_ p3_:Pt) (i5 i6:Int) (s7_:Sl) (i8 i9:Int) (h:H):Prop:=
 bif (decide (i9<i5)) then
 newS 0 1 [] h fun s0 h1=>
 zzQ S K X0 p0_ p3_ i5 i6 s7_ i8 i9 s0 (0) h1
 else
 zkR S K p0_ s7_ i8 h
theorem zpI (S:SatT) (K:KT) (X0:XT) (p0_ p3_:Pt) (i5 i6:Int) (s7_:Sl) (i8 i9:Int) (h:H):zzM S K X0 (Qe p0_ p3_ i5 i6 s7_ i8 i9) h=zkQ S K X0 p0_ p3_ i5 i6 s7_ i8 i9 h:=by kernel_rfl
theorem zpF (S:SatT) (K:KT) (p0_ p3_:Pt) (i5 i6 i8:Int) (I_:Sl→Int→H→Prop) (m_:Sl→Int→H→Nat)
  (hs:∀(X0:XT) (s7_:Sl) (i9:Int) (h:H),I_ s7_ i9 h→(∀(s7_':Sl) (i9':Int) (h':H),I_ s7_' i9' h'→m_ s7_' i9' h'<m_ s7_ i9 h→X0 (Qe p0_ p3_ i5 i6 s7_' i8 i9') h')→zkQ S K X0 p0_ p3_ i5 i6 s7_ i8 i9 h) (s7_:Sl) (i9:Int) {h:H} (h0:I_ s7_ i9 h):zzR S K p0_ p3_ i5 i6 s7_ i8 i9 h:=
 zg (σ :=(Sl)×(Int)) (fun s_=>Qe p0_ p3_ i5 i6 (s_.1) i8 (s_.2)) (fun s_ h=>I_ (s_.1) (s_.2) h) (fun s_ h=>m_ (s_.1) (s_.2) h)
  (fun X s_ h hi hx=>(zpI S K X p0_ p3_ i5 i6 (s_.1) i8 (s_.2) h).mpr (hs X (s_.1) (s_.2) h hi fun s7_' i9' h' hi' hm'=>hx (s7_',i9') h' hi' hm')) (s7_,i9) h0
def Qc (S:SatT) (K:KT) (x0:Pt) (x1:List AVal) (h:H):Prop:=
 newK 2 x1 h fun p0 h1=>
 callI S .i64 zZ [.ptr x0,.int .i64 (4)] h1 fun n3 h2=>
 callI S .i64 zZ [.ptr x0,.int .i64 (4)] h2 fun n5 h4=>
 newS 0 1 [] h4 fun s6 h7=>
 isPt p0 (
 ldS (Pt.add p0 1) h7 fun s8=>
(cell h4 (Pt.add p0 1)=cell h7 (Pt.add p0 1))∧(
 zzR S K x0 p0 (w64 ((1)+n3)) (w64 ((1)+n5)) s6 (s8.len:Int) (0) h7))
theorem zaB (S:SatT) (K:KT) (x0:Pt) (x1:List AVal) (h:H):cwp S tab yA [] (za Tryz.f122) (kFun tab Tryz.f122.results.toList K) (fr0 Tryz.f122 [.ptr x0,.agg x1]) h=Qc S K x0 x1 h:=by kernel_rfl
theorem zzO (x0:Pt) (x1:List AVal) (h:H) (K:Sl→H→Prop) (hm:Qc (Sat Tryz.prog) (fun v h'=>∃r,v = .sl r∧K r h') x0 x1 h):callS (Sat Tryz.prog) zrU [.ptr x0,.agg x1] h K:=by
 have:=Sat.ex tok mixed yA Tryz.func122 (c:=za Tryz.f122) (by kernel_rfl) (zd Tryz.func122 (c:=za Tryz.f122) (by kernel_rfl) (by decide)) ((zaB _ _ x0 x1 h).mpr hm)
 obtain ⟨v,h2,h3,r,rfl,h4⟩:=this;exact ⟨r,h2,h3,h4⟩
def Zp:Nat→List Nat:=fun i=>bif i==2 then [9,10,11,12,13,37,38,39,46,47] else bif i==0 then [9,10,37,38,39] else []
def zjL (S:SatT) (K:KT):Kont:=kSeq (cwp S tab Zp [] (sq Tryz.f29 5 31) (kFun tab (Tryz.f29).results.toList K)) (kFun tab (Tryz.f29).results.toList K)
def zif (p9_:Pt) (s10_ s37_:Sl) (i38 i39:Int):Frame:=(uu 9 (.ptr p9_ :: .sl s10_::uu 26 (.sl s37_ :: .int .i64 i38 :: .int .i64 i39::uu 37 [])))
def zHf (S:SatT) (K:KT):(XT)→XT:=fun X fr h=>cwp S tab Zp (Zp 0) (sq Tryz.f29 8 244) (kSeq (fun fr h=>X (mask (Zp 0) fr) h) (kBlk 0 (zjL S K))) fr h
def zHh (S:SatT) (K:KT) (p9_:Pt) (s10_ s37_:Sl) (i38 i39:Int) (h:H):Prop:=zs (zHf S K) (zif p9_ s10_ s37_ i38 i39) h
def zmq (S:SatT) (K:KT) (X0:XT):Kont:=kSeq (cwp S tab Zp (Zp 0) (sq Tryz.f29 11 1959) (kSeq (fun fr h=>X0 (mask (Zp 0) fr) h) (kBlk 0 (zjL S K)))) (kSeq (fun fr h=>X0 (mask (Zp 0) fr) h) (kBlk 0 (zjL S K)))
def zDO (S:SatT) (K:KT) (X0:XT):Kont:=kSeq (cwp S tab Zp (Zp 1) (sq Tryz.f29 15 31335) (kBlk 1 (zmq S K X0))) (kBlk 1 (zmq S K X0))
def Wr (p9_:Pt) (s10_:Sl) (i11:Int) (s12_ s13_ s37_:Sl) (i38 i39:Int) (i46 i47:Int):Frame:=(uu 9 (.ptr p9_ :: .sl s10_ :: .int .i64 i11 :: .sl s12_ :: .sl s13_::uu 23 (.sl s37_ :: .int .i64 i38 :: .int .i64 i39::uu 6 (.int .i64 i46 :: .int .i64 i47::uu 29 []))))
def zHe (S:SatT) (K:KT) (X0:XT):(XT)→XT:=fun X fr h=>cwp S tab Zp (Zp 2) (sq Tryz.f29 18 250676) (kSeq (fun fr h=>X (mask (Zp 2) fr) h) (kBlk 2 (zDO S K X0))) fr h
def zHg (S:SatT) (K:KT) (X0:XT) (p9_:Pt) (s10_:Sl) (i11:Int) (s12_ s13_ s37_:Sl) (i38 i39:Int) (i46 i47:Int) (h:H):Prop:=zs (zHe S K X0) (Wr p9_ s10_ i11 s12_ s13_ s37_ i38 i39 i46 i47) h
def zHj (S:SatT) (K:KT) (X0:XT) (p9_:Pt) (s10_ s37_:Sl) (i38 i39:Int) (h:H):Prop:=
 X0 (zif p9_ s10_ s37_ i38 (w64 (i39+(1)))) h
def zHi (S:SatT) (K:KT) (X0:XT) (p9_:Pt) (s10_ s13_ s37_:Sl) (i38 i39:Int) (h:H):Prop:=
 newS 1 1 [.sl s13_] h fun s0 h1=>
 app s10_ s0 1 h1 fun s2 h3=>
 zHj S K X0 p9_ s2 s37_ i38 i39 h3
def zvW (S:SatT) (K:KT) (X0 X2:XT) (p9_:Pt) (s10_:Sl) (i11:Int) (s12_ s13_ s37_:Sl) (i38 i39:Int) (i46 i47:Int) (h:H):Prop:=
 bif (decide (i47<i46)) then
 callS S zBO [.ptr p9_,.int .i64 (w64 ((w64 (i11*(s12_.len:Int)))+i47))] h fun s1 h0=>
 bif ((s1.len:Int)==(1)) then
 ixS s1 1 (0) fun p2=>
 ldI .i64 p2 h0 fun n3=>
 newS 1 1 [.int .i64 n3] h0 fun s4 h5=>
 app s13_ s4 1 h5 fun s6 h7=>
 X2 (Wr p9_ s10_ i11 s12_ s6 s37_ i38 i39 i46 (w64 (i47+(1)))) h7
 else
 newS 1 1 [.int .i64 (-1)] h0 fun s8 h9=>
 app s13_ s8 1 h9 fun s10 h11=>
 X2 (Wr p9_ s10_ i11 s12_ s10 s37_ i38 i39 i46 (w64 (i47+(1)))) h11
 else
 zHi S K X0 p9_ s10_ s13_ s37_ i38 i39 h
theorem zvU (S:SatT) (K:KT) (X0 X2:XT) (p9_:Pt) (s10_:Sl) (i11:Int) (s12_ s13_ s37_:Sl) (i38 i39:Int) (i46 i47:Int) (h:H):zHe S K X0 X2 (Wr p9_ s10_ i11 s12_ s13_ s37_ i38 i39 i46 i47) h=zvW S K X0 X2 p9_ s10_ i11 s12_ s13_ s37_ i38 i39 i46 i47 h:=by kernel_rfl
theorem zvS (S:SatT) (K:KT) (X0:XT) (p9_:Pt) (s10_:Sl) (i11:Int) (s12_ s37_:Sl) (i38 i39 i46:Int) (I_:Sl→Int→H→Prop) (m_:Sl→Int→H→Nat)
  (hs:∀(X2:XT) (s13_:Sl) (i47:Int) (h:H),I_ s13_ i47 h→(∀(s13_':Sl) (i47':Int) (h':H),I_ s13_' i47' h'→m_ s13_' i47' h'<m_ s13_ i47 h→X2 (Wr p9_ s10_ i11 s12_ s13_' s37_ i38 i39 i46 i47') h')→zvW S K X0 X2 p9_ s10_ i11 s12_ s13_ s37_ i38 i39 i46 i47 h) (s13_:Sl) (i47:Int) {h:H} (h0:I_ s13_ i47 h):zHg S K X0 p9_ s10_ i11 s12_ s13_ s37_ i38 i39 i46 i47 h:=
 zg (σ :=(Sl)×(Int)) (fun s_=>Wr p9_ s10_ i11 s12_ (s_.1) s37_ i38 i39 i46 (s_.2)) (fun s_ h=>I_ (s_.1) (s_.2) h) (fun s_ h=>m_ (s_.1) (s_.2) h)
  (fun X s_ h hi hx=>(zvU S K X0 X p9_ s10_ i11 s12_ (s_.1) s37_ i38 i39 i46 (s_.2) h).mpr (hs X (s_.1) (s_.2) h hi fun s13_' i47' h' hi' hm'=>hx (s13_',i47') h' hi' hm')) (s13_,i47) h0
def zHk (S:SatT) (K:KT) (s10_:Sl) (h:H):Prop:=
 K (.tuple [.sl s10_,.int .i64 (0)]) h
def zvX (S:SatT) (K:KT) (X0:XT) (p9_:Pt) (s10_ s37_:Sl) (i38 i39:Int) (h:H):Prop:=
 bif (decide (i39<i38)) then
 ixS s37_ 1 i39 fun p0=>
 ldS p0 h fun s1=>
 newS 0 1 [] h fun s2 h3=>
 zHg S K X0 p9_ s10_ i39 s1 s2 s37_ i38 i39 (s1.len:Int) (0) h3
 else
 zHk S K s10_ h
theorem zvV (S:SatT) (K:KT) (X0:XT) (p9_:Pt) (s10_ s37_:Sl) (i38 i39:Int) (h:H):zHf S K X0 (zif p9_ s10_ s37_ i38 i39) h=zvX S K X0 p9_ s10_ s37_ i38 i39 h:=by kernel_rfl
theorem zvT (S:SatT) (K:KT) (p9_:Pt) (s37_:Sl) (i38:Int) (I_:Sl→Int→H→Prop) (m_:Sl→Int→H→Nat)
  (hs:∀(X0:XT) (s10_:Sl) (i39:Int) (h:H),I_ s10_ i39 h→(∀(s10_':Sl) (i39':Int) (h':H),I_ s10_' i39' h'→m_ s10_' i39' h'<m_ s10_ i39 h→X0 (zif p9_ s10_' s37_ i38 i39') h')→zvX S K X0 p9_ s10_ s37_ i38 i39 h) (s10_:Sl) (i39:Int) {h:H} (h0:I_ s10_ i39 h):zHh S K p9_ s10_ s37_ i38 i39 h:=
 zg (σ :=(Sl)×(Int)) (fun s_=>zif p9_ (s_.1) s37_ i38 (s_.2)) (fun s_ h=>I_ (s_.1) (s_.2) h) (fun s_ h=>m_ (s_.1) (s_.2) h)
  (fun X s_ h hi hx=>(zvV S K X p9_ (s_.1) s37_ i38 (s_.2) h).mpr (hs X (s_.1) (s_.2) h hi fun s10_' i39' h' hi' hm'=>hx (s10_',i39') h' hi' hm')) (s10_,i39) h0
def zfP (S:SatT) (K:KT) (x0:List AVal) (x1 x2:Sl) (h:H):Prop:=
 newK 2 x0 h fun p0 h1=>
 ldA p0 2 h1 fun cs2=>
 callI S .i64 znr [.agg cs2,.sl x1,.sl x2] h1 fun n4 h3=>
 bif (n4 != (0)) then
 K (.tuple [.sl Sl.nil,.int .i64 n4]) h3
 else
 ldA p0 2 h3 fun cs5=>
 callP S zhh [.agg cs5,.sl x1,.sl x2] h3 fun p7 h6=>
 newS 0 1 [] h6 fun s8 h9=>
 nilC (.ptr p7) (
 isPt p7 (
 ldS (Pt.add p7 6) h9 fun s10=>
 ixS s10 1 (0) fun p11=>
 ldS p11 h9 fun s12=>
 ixS s12 1 (0) fun p13=>
 ldB p13 h9 fun b14=>
 bif (!b14) then
 K (.tuple [.sl Sl.nil,.int .i64 (4)]) h9
 else
 zHh S K p7 s8 x1 (x1.len:Int) (0) h9))
theorem zfO (S:SatT) (K:KT) (x0:List AVal) (x1 x2:Sl) (h:H):cwp S tab Zp [] (za Tryz.f29) (kFun tab Tryz.f29.results.toList K) (fr0 Tryz.f29 [.agg x0,.sl x1,.sl x2]) h=zfP S K x0 x1 x2 h:=by kernel_rfl
theorem zDP (x0:List AVal) (x1 x2:Sl) (h:H) (K:KT) (hm:zfP (Sat Tryz.prog) (fun v h'=>K v h') x0 x1 x2 h):callV (Sat Tryz.prog) zIW [.agg x0,.sl x1,.sl x2] h K:=by
 have:=Sat.ex tok mixed Zp Tryz.func29 (c:=za Tryz.f29) (by kernel_rfl) (zd Tryz.func29 (c:=za Tryz.f29) (by kernel_rfl) (by decide)) ((zfO _ _ x0 x1 x2 h).mpr hm)
 exact this
def xX:Nat→List Nat:=fun i=>bif i==2 then [0,1,5,6,7,8] else bif i==0 then [0,1,5,6] else []
def zfY (S:SatT) (K:KT):Kont:=kSeq (cwp S tab xX [] (sq Tryz.f137 3 7) (kFun tab (Tryz.f137).results.toList K)) (kFun tab (Tryz.f137).results.toList K)
def Vm (i0 i1:Int) (s5_:Sl) (i6:Int):Frame:=(.int .i64 i0 :: .int .i64 i1::U::U::U :: .sl s5_ :: .int .i64 i6::uu 22 [])
def zxW (S:SatT) (K:KT):(XT)→XT:=fun X fr h=>cwp S tab xX (xX 0) (sq Tryz.f137 6 52) (kSeq (fun fr h=>X (mask (xX 0) fr) h) (kBlk 0 (zfY S K))) fr h
def zxZ (S:SatT) (K:KT) (i0 i1:Int) (s5_:Sl) (i6:Int) (h:H):Prop:=zs (zxW S K) (Vm i0 i1 s5_ i6) h
def zmy (S:SatT) (K:KT) (X0:XT):Kont:=kSeq (cwp S tab xX (xX 0) (sq Tryz.f137 8 211) (kSeq (fun fr h=>X0 (mask (xX 0) fr) h) (kBlk 0 (zfY S K)))) (kSeq (fun fr h=>X0 (mask (xX 0) fr) h) (kBlk 0 (zfY S K)))
def zEe (S:SatT) (K:KT) (X0:XT):Kont:=kSeq (cwp S tab xX (xX 1) (sq Tryz.f137 11 1683) (kBlk 1 (zmy S K X0))) (kBlk 1 (zmy S K X0))
def Vl (i0 i1:Int) (s5_:Sl) (i6:Int) (s7_:Sl) (i8:Int):Frame:=(.int .i64 i0 :: .int .i64 i1::U::U::U :: .sl s5_ :: .int .i64 i6 :: .sl s7_ :: .int .i64 i8::uu 20 [])
def zxV (S:SatT) (K:KT) (X0:XT):(XT)→XT:=fun X fr h=>cwp S tab xX (xX 2) (sq Tryz.f137 14 13460) (kSeq (fun fr h=>X (mask (xX 2) fr) h) (kBlk 2 (zEe S K X0))) fr h
def zxY (S:SatT) (K:KT) (X0:XT) (i0 i1:Int) (s5_:Sl) (i6:Int) (s7_:Sl) (i8:Int) (h:H):Prop:=zs (zxV S K X0) (Vl i0 i1 s5_ i6 s7_ i8) h
def zyb (S:SatT) (K:KT) (X0:XT) (i0 i1:Int) (s5_:Sl) (i6:Int) (h:H):Prop:=
 X0 (Vm i0 i1 s5_ (w64 (i6+(1)))) h
def zya (S:SatT) (K:KT) (X0:XT) (i0 i1:Int) (s5_:Sl) (i6:Int) (s7_:Sl) (h:H):Prop:=
 newS 1 1 [.sl s7_] h fun s0 h1=>
 app s5_ s0 1 h1 fun s2 h3=>
 zyb S K X0 i0 i1 s2 i6 h3
def zkj (S:SatT) (K:KT) (X0 X2:XT) (i0 i1:Int) (s5_:Sl) (i6:Int) (s7_:Sl) (i8:Int) (h:H):Prop:=
 bif (decide (i8<i1)) then
 newS 1 1 [.int .i64 (-1)] h fun s0 h1=>
 app s7_ s0 1 h1 fun s2 h3=>
 X2 (Vl i0 i1 s5_ i6 s2 (w64 (i8+(1)))) h3
 else
 zya S K X0 i0 i1 s5_ i6 s7_ h
theorem zov (S:SatT) (K:KT) (X0 X2:XT) (i0 i1:Int) (s5_:Sl) (i6:Int) (s7_:Sl) (i8:Int) (h:H):zxV S K X0 X2 (Vl i0 i1 s5_ i6 s7_ i8) h=zkj S K X0 X2 i0 i1 s5_ i6 s7_ i8 h:=by kernel_rfl
theorem zot (S:SatT) (K:KT) (X0:XT) (i0 i1:Int) (s5_:Sl) (i6:Int) (I_:Sl→Int→H→Prop) (m_:Sl→Int→H→Nat)
  (hs:∀(X2:XT) (s7_:Sl) (i8:Int) (h:H),I_ s7_ i8 h→(∀(s7_':Sl) (i8':Int) (h':H),I_ s7_' i8' h'→m_ s7_' i8' h'<m_ s7_ i8 h→X2 (Vl i0 i1 s5_ i6 s7_' i8') h')→zkj S K X0 X2 i0 i1 s5_ i6 s7_ i8 h) (s7_:Sl) (i8:Int) {h:H} (h0:I_ s7_ i8 h):zxY S K X0 i0 i1 s5_ i6 s7_ i8 h:=
 zg (σ :=(Sl)×(Int)) (fun s_=>Vl i0 i1 s5_ i6 (s_.1) (s_.2)) (fun s_ h=>I_ (s_.1) (s_.2) h) (fun s_ h=>m_ (s_.1) (s_.2) h)
  (fun X s_ h hi hx=>(zov S K X0 X i0 i1 s5_ i6 (s_.1) (s_.2) h).mpr (hs X (s_.1) (s_.2) h hi fun s7_' i8' h' hi' hm'=>hx (s7_',i8') h' hi' hm')) (s7_,i8) h0
def zyc (S:SatT) (K:KT) (s5_:Sl) (h:H):Prop:=
 K (.sl s5_) h
def zkk (S:SatT) (K:KT) (X0:XT) (i0 i1:Int) (s5_:Sl) (i6:Int) (h:H):Prop:=
 bif (decide (i6<i0)) then
 newS 0 1 [] h fun s0 h1=>
 zxY S K X0 i0 i1 s5_ i6 s0 (0) h1
 else
 zyc S K s5_ h
theorem zow (S:SatT) (K:KT) (X0:XT) (i0 i1:Int) (s5_:Sl) (i6:Int) (h:H):zxW S K X0 (Vm i0 i1 s5_ i6) h=zkk S K X0 i0 i1 s5_ i6 h:=by kernel_rfl
theorem zou (S:SatT) (K:KT) (i0 i1:Int) (I_:Sl→Int→H→Prop) (m_:Sl→Int→H→Nat)
  (hs:∀(X0:XT) (s5_:Sl) (i6:Int) (h:H),I_ s5_ i6 h→(∀(s5_':Sl) (i6':Int) (h':H),I_ s5_' i6' h'→m_ s5_' i6' h'<m_ s5_ i6 h→X0 (Vm i0 i1 s5_' i6') h')→zkk S K X0 i0 i1 s5_ i6 h) (s5_:Sl) (i6:Int) {h:H} (h0:I_ s5_ i6 h):zxZ S K i0 i1 s5_ i6 h:=
 zg (σ :=(Sl)×(Int)) (fun s_=>Vm i0 i1 (s_.1) (s_.2)) (fun s_ h=>I_ (s_.1) (s_.2) h) (fun s_ h=>m_ (s_.1) (s_.2) h)
  (fun X s_ h hi hx=>(zow S K X i0 i1 (s_.1) (s_.2) h).mpr (hs X (s_.1) (s_.2) h hi fun s5_' i6' h' hi' hm'=>hx (s5_',i6') h' hi' hm')) (s5_,i6) h0
def Vk (S:SatT) (K:KT) (x0 x1:Int) (h:H):Prop:=
 newS 0 1 [] h fun s0 h1=>
 zxZ S K x0 x1 s0 (0) h1
theorem zac (S:SatT) (K:KT) (x0 x1:Int) (h:H):cwp S tab xX [] (za Tryz.f137) (kFun tab Tryz.f137.results.toList K) (fr0 Tryz.f137 [.int .i64 x0,.int .i64 x1]) h=Vk S K x0 x1 h:=by kernel_rfl
theorem zxX (x0 x1:Int) (h:H) (K:Sl→H→Prop) (hm:Vk (Sat Tryz.prog) (fun v h'=>∃r,v = .sl r∧K r h') x0 x1 h):callS (Sat Tryz.prog) zhk [.int .i64 x0,.int .i64 x1] h K:=by
 have:=Sat.ex tok mixed xX Tryz.func137 (c:=za Tryz.f137) (by kernel_rfl) (zd Tryz.func137 (c:=za Tryz.f137) (by kernel_rfl) (by decide)) ((zac _ _ x0 x1 h).mpr hm)
 obtain ⟨v,h2,h3,r,rfl,h4⟩:=this;exact ⟨r,h2,h3,h4⟩
def zbH:Nat→List Nat:=fun i=>bif i==0 then [2,5,6,7] else []
def zDV (S:SatT) (K:KT):Kont:=kSeq (cwp S tab zbH [] (sq Tryz.f160 5 31) (kFun tab (Tryz.f160).results.toList K)) (kFun tab (Tryz.f160).results.toList K)
def WG (p2_ p5_:Pt) (s6_:Sl) (i7:Int):Frame:=(U::U :: .ptr p2_::U::U :: .ptr p5_ :: .sl s6_ :: .int .i64 i7::uu 62 [])
def zwt (S:SatT) (K:KT):(XT)→XT:=fun X fr h=>cwp S tab zbH (zbH 0) (sq Tryz.f160 11 1964) (kSeq (fun fr h=>X (mask (zbH 0) fr) h) (kBlk 0 (zDV S K))) fr h
def zwv (S:SatT) (K:KT) (p2_ p5_:Pt) (s6_:Sl) (i7:Int) (h:H):Prop:=zs (zwt S K) (WG p2_ p5_ s6_ i7) h
def zjS (S:SatT) (K:KT) (p2_ p5_:Pt) (h:H):Prop:=
 ldA p5_ 2 h fun cs0=>
 callB S zcy [.agg cs0] h fun b2 h1=>
 bif (!b2) then
 stN p2_ 2 [.int .i64 (0),.sl Sl.nil] h1 fun h3=>
 ldA p2_ 2 h3 fun cs4=>
 K (.tuple [.agg cs4,.bool false]) h3
 else
 ldA p5_ 2 h1 fun cs5=>
 stN p2_ 2 cs5 h1 fun h6=>
 ldA p2_ 2 h6 fun cs7=>
 K (.tuple [.agg cs7,.bool true]) h6
def zjR (S:SatT) (K:KT) (X0:XT) (p2_ p5_:Pt) (s6_:Sl) (i7:Int) (h:H):Prop:=
 bif (decide (i7<(s6_.len:Int))) then
 ixS s6_ 1 i7 fun p0=>
 ldV p0 h fun v1=>
 yi v1 fun t2=>
 bif ((t2.size:Int) != (4)) then
 stN p2_ 2 [.int .i64 (0),.sl Sl.nil] h fun h3=>
 ldA p2_ 2 h3 fun cs4=>
 K (.tuple [.agg cs4,.bool false]) h3
 else
 isPt p5_ (
 ldS (Pt.add p5_ 1) h fun s5=>
 yi v1 fun t6=>
 Y7 t6 (0) fun n7=>
 yi v1 fun t8=>
 Y7 t8 (1) fun n9=>
 yi v1 fun t10=>
 Y7 t10 (2) fun n11=>
 yi v1 fun t12=>
 Y7 t12 (3) fun n13=>
 lenA [.int .i64 (w64 ((w64 (n7))-(48))),.int .i64 (w64 ((w64 (n9))-(48))),.int .i64 (w64 ((w64 (n11))-(48))),.int .i64 (w64 ((w64 (n13))-(48)))] 4 (
 newS 1 4 (spl [.int .i64 (0),.int .i64 (0),.int .i64 (0),.int .i64 (0)] 0 4 [.int .i64 (w64 ((w64 (n7))-(48))),.int .i64 (w64 ((w64 (n9))-(48))),.int .i64 (w64 ((w64 (n11))-(48))),.int .i64 (w64 ((w64 (n13))-(48)))]) h fun s14 h15=>
(cell h15 (Pt.add p5_ 1)=cell h (Pt.add p5_ 1))∧(
 app s5 s14 4 h15 fun s16 h17=>
 isPt p5_ (
 st1 (Pt.add p5_ 1) (.sl s16) h17 fun h18=>
 X0 (WG p2_ p5_ s6_ (w64 (i7+(1)))) h18))))
 else
 zjS S K p2_ p5_ h
theorem znX (S:SatT) (K:KT) (X0:XT) (p2_ p5_:Pt) (s6_:Sl) (i7:Int) (h:H):zwt S K X0 (WG p2_ p5_ s6_ i7) h=zjR S K X0 p2_ p5_ s6_ i7 h:=by kernel_rfl
theorem znW (S:SatT) (K:KT) (p2_ p5_:Pt) (s6_:Sl) (I_:Int→H→Prop) (m_:Int→H→Nat)
  (hs:∀(X0:XT) (i7:Int) (h:H),I_ i7 h→(∀(i7':Int) (h':H),I_ i7' h'→m_ i7' h'<m_ i7 h→X0 (WG p2_ p5_ s6_ i7') h')→zjR S K X0 p2_ p5_ s6_ i7 h) (i7:Int) {h:H} (h0:I_ i7 h):zwv S K p2_ p5_ s6_ i7 h:=
 zg (σ :=(Int)) (fun s_=>WG p2_ p5_ s6_ (s_)) (fun s_ h=>I_ (s_) h) (fun s_ h=>m_ (s_) h)
  (fun X s_ h hi hx=>(znX S K X p2_ p5_ s6_ (s_) h).mpr (hs X (s_) h hi fun i7' h' hi' hm'=>hx (i7') h' hi' hm')) (i7) h0
def WF (S:SatT) (K:KT) (x0:AVal) (h:H):Prop:=
 newO [.int .i64 (0),.sl Sl.nil] h fun p0 h1=>
 callS S zlN [x0,.int .u8 (58)] h1 fun s3 h2=>
 bif ((s3.len:Int) != (2)) then
 stN p0 2 [.int .i64 (0),.sl Sl.nil] h2 fun h4=>
 ldA p0 2 h4 fun cs5=>
 K (.tuple [.agg cs5,.bool false]) h4
 else
 ixS s3 1 (0) fun p6=>
 ldV p6 h2 fun v7=>
 callI S .i64 zru [v7] h2 fun n9 h8=>
 newS 0 4 [] h8 fun s10 h11=>
 newO [.int .i64 (0),.sl Sl.nil] h11 fun p12 h13=>
 stN p12 2 [.int .i64 n9,.sl s10] h13 fun h14=>
 ixS s3 1 (1) fun p15=>
 ldV p15 h14 fun v16=>
 zql v16 (.str ByteArray.empty) fun b17=>
 bif (!b17) then
 ixS s3 1 (1) fun p18=>
 ldV p18 h14 fun v19=>
 callS S zlN [v19,.int .u8 (44)] h14 fun s21 h20=>
 zwv S K p0 p12 s21 (0) h20
 else
 ldA p12 2 h14 fun cs22=>
 callB S zcy [.agg cs22] h14 fun b24 h23=>
 bif (!b24) then
 stN p0 2 [.int .i64 (0),.sl Sl.nil] h23 fun h25=>
 ldA p0 2 h25 fun cs26=>
 K (.tuple [.agg cs26,.bool false]) h25
 else
 ldA p12 2 h23 fun cs27=>
 stN p0 2 cs27 h23 fun h28=>
 ldA p0 2 h28 fun cs29=>
 K (.tuple [.agg cs29,.bool true]) h28
theorem QI (S:SatT) (K:KT) (x0:AVal) (h:H):cwp S tab zbH [] (za Tryz.f160) (kFun tab Tryz.f160.results.toList K) (fr0 Tryz.f160 [x0]) h=WF S K x0 h:=by kernel_rfl
theorem zwu (x0:AVal) (h:H) (K:KT) (hm:WF (Sat Tryz.prog) (fun v h'=>K v h') x0 h):callV (Sat Tryz.prog) zrz [x0] h K:=by
 have:=Sat.ex tok mixed zbH Tryz.func160 (c:=za Tryz.f160) (by kernel_rfl) (zd Tryz.func160 (c:=za Tryz.f160) (by kernel_rfl) (by decide)) ((QI _ _ x0 h).mpr hm)
 exact this
def zbM:Nat→List Nat:=fun i=>bif i==0 then [1,2,4,5,6] else []
def zEc (S:SatT) (K:KT):Kont:=kSeq (cwp S tab zbM [] (sq Tryz.f143 3 7) (kFun tab (Tryz.f143).results.toList K)) (kFun tab (Tryz.f143).results.toList K)
def Ve (s1_:Sl) (p2_ p4_:Pt) (s5_:Sl) (i6:Int):Frame:=(U :: .sl s1_ :: .ptr p2_::U :: .ptr p4_ :: .sl s5_ :: .int .i64 i6::uu 42 [])
def zxL (S:SatT) (K:KT):(XT)→XT:=fun X fr h=>cwp S tab zbM (zbM 0) (sq Tryz.f143 6 52) (kSeq (fun fr h=>X (mask (zbM 0) fr) h) (kBlk 0 (zEc S K))) fr h
def zxN (S:SatT) (K:KT) (s1_:Sl) (p2_ p4_:Pt) (s5_:Sl) (i6:Int) (h:H):Prop:=zs (zxL S K) (Ve s1_ p2_ p4_ s5_ i6) h
def zxO (S:SatT) (K:KT) (p2_ p4_:Pt) (s5_:Sl) (h:H):Prop:=
 isPt p2_ (
 ldI .i64 (Pt.add p2_ 0) h fun n0=>
 callA S zbu [.int .i64 n0,.sl s5_] h fun cs2 h1=>
 stN p4_ 2 cs2 h1 fun h3=>
 ldA p4_ 2 h3 fun cs4=>
 K (.agg cs4) h3)
def zkh (S:SatT) (K:KT) (X0:XT) (s1_:Sl) (p2_ p4_:Pt) (s5_:Sl) (i6:Int) (h:H):Prop:=
 isPt p2_ (
 ldS (Pt.add p2_ 1) h fun s0=>
 bif (decide (i6<(s0.len:Int))) then
 isPt p2_ (
 ldS (Pt.add p2_ 1) h fun s1=>
 ixS s1 4 i6 fun p2=>
 ldA p2 4 h fun cs3=>
 newO [.int .i64 (0),.int .i64 (0),.int .i64 (0),.int .i64 (0)] h fun p4 h5=>
 stN p4 4 cs3 h5 fun h6=>
 ixA p4 4 1 (0) fun p7=>
 ldI .i64 p7 h6 fun n8=>
 ixS s1_ 1 n8 fun p9=>
 ldI .i64 p9 h6 fun n10=>
 ixA p4 4 1 (1) fun p11=>
 ldI .i64 p11 h6 fun n12=>
 ixS s1_ 1 n12 fun p13=>
 ldI .i64 p13 h6 fun n14=>
 ixA p4 4 1 (2) fun p15=>
 ldI .i64 p15 h6 fun n16=>
 ixS s1_ 1 n16 fun p17=>
 ldI .i64 p17 h6 fun n18=>
 ixA p4 4 1 (3) fun p19=>
 ldI .i64 p19 h6 fun n20=>
 ixS s1_ 1 n20 fun p21=>
 ldI .i64 p21 h6 fun n22=>
 lenA [.int .i64 n10,.int .i64 n14,.int .i64 n18,.int .i64 n22] 4 (
 newS 1 4 (spl [.int .i64 (0),.int .i64 (0),.int .i64 (0),.int .i64 (0)] 0 4 [.int .i64 n10,.int .i64 n14,.int .i64 n18,.int .i64 n22]) h6 fun s23 h24=>
 app s5_ s23 4 h24 fun s25 h26=>
 X0 (Ve s1_ p2_ p4_ s25 (w64 (i6+(1)))) h26))
 else
 zxO S K p2_ p4_ s5_ h)
theorem zoq (S:SatT) (K:KT) (X0:XT) (s1_:Sl) (p2_ p4_:Pt) (s5_:Sl) (i6:Int) (h:H):zxL S K X0 (Ve s1_ p2_ p4_ s5_ i6) h=zkh S K X0 s1_ p2_ p4_ s5_ i6 h:=by kernel_rfl
theorem zop (S:SatT) (K:KT) (s1_:Sl) (p2_ p4_:Pt) (I_:Sl→Int→H→Prop) (m_:Sl→Int→H→Nat)
  (hs:∀(X0:XT) (s5_:Sl) (i6:Int) (h:H),I_ s5_ i6 h→(∀(s5_':Sl) (i6':Int) (h':H),I_ s5_' i6' h'→m_ s5_' i6' h'<m_ s5_ i6 h→X0 (Ve s1_ p2_ p4_ s5_' i6') h')→zkh S K X0 s1_ p2_ p4_ s5_ i6 h) (s5_:Sl) (i6:Int) {h:H} (h0:I_ s5_ i6 h):zxN S K s1_ p2_ p4_ s5_ i6 h:=
 zg (σ :=(Sl)×(Int)) (fun s_=>Ve s1_ p2_ p4_ (s_.1) (s_.2)) (fun s_ h=>I_ (s_.1) (s_.2) h) (fun s_ h=>m_ (s_.1) (s_.2) h)
  (fun X s_ h hi hx=>(zoq S K X s1_ p2_ p4_ (s_.1) (s_.2) h).mpr (hs X (s_.1) (s_.2) h hi fun s5_' i6' h' hi' hm'=>hx (s5_',i6') h' hi' hm')) (s5_,i6) h0
def Vd (S:SatT) (K:KT) (x0:List AVal) (x1:Sl) (h:H):Prop:=
 newK 2 x0 h fun p0 h1=>
 newO [.int .i64 (0),.sl Sl.nil] h1 fun p2 h3=>
 newS 0 4 [] h3 fun s4 h5=>
 zxN S K x1 p0 p2 s4 (0) h5
theorem Q7 (S:SatT) (K:KT) (x0:List AVal) (x1:Sl) (h:H):cwp S tab zbM [] (za Tryz.f143) (kFun tab Tryz.f143.results.toList K) (fr0 Tryz.f143 [.agg x0,.sl x1]) h=Vd S K x0 x1 h:=by kernel_rfl
theorem zxM (x0:List AVal) (x1:Sl) (h:H) (K:List AVal→H→Prop) (hm:Vd (Sat Tryz.prog) (fun v h'=>∃r,v = .agg r∧K r h') x0 x1 h):callA (Sat Tryz.prog) zrJ [.agg x0,.sl x1] h K:=by
 have:=Sat.ex tok mixed zbM Tryz.func143 (c:=za Tryz.f143) (by kernel_rfl) (zd Tryz.func143 (c:=za Tryz.f143) (by kernel_rfl) (by decide)) ((Q7 _ _ x0 x1 h).mpr hm)
 obtain ⟨v,h2,h3,r,rfl,h4⟩:=this;exact ⟨r,h2,h3,h4⟩
def zbK:Nat→List Nat:=fun i=>bif i==0 then [0,1,9,10,11] else []
def zEa (S:SatT) (K:KT):Kont:=kSeq (cwp S tab zbK [] (sq Tryz.f148 2 3) (kFun tab (Tryz.f148).results.toList K)) (kFun tab (Tryz.f148).results.toList K)
def W7 (s0_ s1_ s9_:Sl) (i10 i11:Int):Frame:=(.sl s0_ :: .sl s1_::uu 7 (.sl s9_ :: .int .i64 i10 :: .int .i64 i11::uu 24 []))
def zxB (S:SatT) (K:KT):(XT)→XT:=fun X fr h=>cwp S tab zbK (zbK 0) (sq Tryz.f148 5 20) (kSeq (fun fr h=>X (mask (zbK 0) fr) h) (kBlk 0 (zEa S K))) fr h
def zxD (S:SatT) (K:KT) (s0_ s1_ s9_:Sl) (i10 i11:Int) (h:H):Prop:=zs (zxB S K) (W7 s0_ s1_ s9_ i10 i11) h
def zxE (S:SatT) (K:KT) (s0_ s1_:Sl) (h:H):Prop:=
 bif (decide ((s0_.len:Int)<(s1_.len:Int))) then
 K (.int .i64 (-1)) h
 else
 K (.int .i64 (0)) h
def zkf (S:SatT) (K:KT) (X0:XT) (s0_ s1_ s9_:Sl) (i10 i11:Int) (h:H):Prop:=
 bif (decide (i11<i10)) then
 ixS s9_ 1 i11 fun p0=>
 ldI .i64 p0 h fun n1=>
 bif (decide (i11≥(s1_.len:Int))) then
 K (.int .i64 (1)) h
 else
 ixS s1_ 1 i11 fun p2=>
 ldI .i64 p2 h fun n3=>
 callI S .i64 zrw [.int .i64 n1,.int .i64 n3] h fun n5 h4=>
 bif (n5 != (0)) then
 K (.int .i64 n5) h4
 else
 X0 (W7 s0_ s1_ s9_ i10 (w64 (i11+(1)))) h4
 else
 zxE S K s0_ s1_ h
theorem zom (S:SatT) (K:KT) (X0:XT) (s0_ s1_ s9_:Sl) (i10 i11:Int) (h:H):zxB S K X0 (W7 s0_ s1_ s9_ i10 i11) h=zkf S K X0 s0_ s1_ s9_ i10 i11 h:=by kernel_rfl
theorem zol (S:SatT) (K:KT) (s0_ s1_ s9_:Sl) (i10:Int) (I_:Int→H→Prop) (m_:Int→H→Nat)
  (hs:∀(X0:XT) (i11:Int) (h:H),I_ i11 h→(∀(i11':Int) (h':H),I_ i11' h'→m_ i11' h'<m_ i11 h→X0 (W7 s0_ s1_ s9_ i10 i11') h')→zkf S K X0 s0_ s1_ s9_ i10 i11 h) (i11:Int) {h:H} (h0:I_ i11 h):zxD S K s0_ s1_ s9_ i10 i11 h:=
 zg (σ :=(Int)) (fun s_=>W7 s0_ s1_ s9_ i10 (s_)) (fun s_ h=>I_ (s_) h) (fun s_ h=>m_ (s_) h)
  (fun X s_ h hi hx=>(zom S K X s0_ s1_ s9_ i10 (s_) h).mpr (hs X (s_) h hi fun i11' h' hi' hm'=>hx (i11') h' hi' hm')) (i11) h0
def W6 (S:SatT) (K:KT) (x0 x1:Sl) (h:H):Prop:=
 zxD S K x0 x1 x0 (x0.len:Int) (0) h
theorem Q2 (S:SatT) (K:KT) (x0 x1:Sl) (h:H):cwp S tab zbK [] (za Tryz.f148) (kFun tab Tryz.f148.results.toList K) (fr0 Tryz.f148 [.sl x0,.sl x1]) h=W6 S K x0 x1 h:=by kernel_rfl
theorem zxC (x0 x1:Sl) (h:H) (K:Int→H→Prop) (hm:W6 (Sat Tryz.prog) (fun v h'=>∃r,v = .int .i64 r∧K r h') x0 x1 h):callI (Sat Tryz.prog) .i64 zrG [.sl x0,.sl x1] h K:=by
 have:=Sat.ex tok mixed zbK Tryz.func148 (c:=za Tryz.f148) (by kernel_rfl) (zd Tryz.func148 (c:=za Tryz.f148) (by kernel_rfl) (by decide)) ((Q2 _ _ x0 x1 h).mpr hm)
 obtain ⟨v,h2,h3,r,rfl,h4⟩:=this;exact ⟨r,h2,h3,h4⟩
def zbE:Nat→List Nat:=fun i=>bif i==0 then [0,3,4] else []
def zDR (S:SatT) (K:KT):Kont:=kSeq (cwp S tab zbE [] (sq Tryz.f170 4 15) (kFun tab (Tryz.f170).results.toList K)) (kFun tab (Tryz.f170).results.toList K)
def Wv (f0_:AVal) (i3 i4:Int):Frame:=(f0_::U::U :: .int .i64 i3 :: .int .i64 i4::uu 43 [])
def zwa (S:SatT) (K:KT):(XT)→XT:=fun X fr h=>cwp S tab zbE (zbE 0) (sq Tryz.f170 7 116) (kSeq (fun fr h=>X (mask (zbE 0) fr) h) (kBlk 0 (zDR S K))) fr h
def zfS (S:SatT) (K:KT) (f0_:AVal) (i3 i4:Int) (h:H):Prop:=zs (zwa S K) (Wv f0_ i3 i4) h
def zLj (S:SatT) (K:KT) (i3:Int) (h:H):Prop:=
 K (.int .i64 i3) h
def zjM (S:SatT) (K:KT) (X0:XT) (f0_:AVal) (i3 i4:Int) (h:H):Prop:=
 yi f0_ fun t0=>
 bif (decide (i4<(t0.size:Int))) then
 yi f0_ fun t1=>
 Y7 t1 i4 fun n2=>
 bif (decide (n2<(48))) then
 K (.int .i64 (-1)) h
 else
 yi f0_ fun t3=>
 Y7 t3 i4 fun n4=>
 bif (decide (n4>(57))) then
 K (.int .i64 (-1)) h
 else
 yi f0_ fun t5=>
 Y7 t5 i4 fun n6=>
 X0 (Wv f0_ (w64 ((w64 (i3*(10)))+(w64 ((IntKind.wrap .u8 (n6-(48))))))) (w64 (i4+(1)))) h
 else
 zLj S K i3 h
theorem znN (S:SatT) (K:KT) (X0:XT) (f0_:AVal) (i3 i4:Int) (h:H):zwa S K X0 (Wv f0_ i3 i4) h=zjM S K X0 f0_ i3 i4 h:=by kernel_rfl
theorem znM (S:SatT) (K:KT) (f0_:AVal) (I_:Int→Int→H→Prop) (m_:Int→Int→H→Nat)
  (hs:∀(X0:XT) (i3 i4:Int) (h:H),I_ i3 i4 h→(∀(i3' i4':Int) (h':H),I_ i3' i4' h'→m_ i3' i4' h'<m_ i3 i4 h→X0 (Wv f0_ i3' i4') h')→zjM S K X0 f0_ i3 i4 h) (i3 i4:Int) {h:H} (h0:I_ i3 i4 h):zfS S K f0_ i3 i4 h:=
 zg (σ :=(Int)×(Int)) (fun s_=>Wv f0_ (s_.1) (s_.2)) (fun s_ h=>I_ (s_.1) (s_.2) h) (fun s_ h=>m_ (s_.1) (s_.2) h)
  (fun X s_ h hi hx=>(znN S K X f0_ (s_.1) (s_.2) h).mpr (hs X (s_.1) (s_.2) h hi fun i3' i4' h' hi' hm'=>hx (i3',i4') h' hi' hm')) (i3,i4) h0
def Wu (S:SatT) (K:KT) (x0:AVal) (h:H):Prop:=
 yi x0 fun t0=>
 bif ((t0.size:Int)==(0)) then
 K (.int .i64 (-1)) h
 else
 yi x0 fun t1=>
 bif (decide ((t1.size:Int)>(9))) then
 K (.int .i64 (-1)) h
 else
 yi x0 fun t2=>
 bif (decide ((t2.size:Int)>(1))) then
 yi x0 fun t3=>
 Y7 t3 (0) fun n4=>
 bif (n4==(48)) then
 K (.int .i64 (-1)) h
 else
 zfS S K x0 (0) (0) h
 else
 zfS S K x0 (0) (0) h
theorem QA (S:SatT) (K:KT) (x0:AVal) (h:H):cwp S tab zbE [] (za Tryz.f170) (kFun tab Tryz.f170.results.toList K) (fr0 Tryz.f170 [x0]) h=Wu S K x0 h:=by kernel_rfl
theorem zwb (x0:AVal) (h:H) (K:Int→H→Prop) (hm:Wu (Sat Tryz.prog) (fun v h'=>∃r,v = .int .i64 r∧K r h') x0 h):callI (Sat Tryz.prog) .i64 zru [x0] h K:=by
 have:=Sat.ex tok mixed zbE Tryz.func170 (c:=za Tryz.f170) (by kernel_rfl) (zd Tryz.func170 (c:=za Tryz.f170) (by kernel_rfl) (by decide)) ((QA _ _ x0 h).mpr hm)
 obtain ⟨v,h2,h3,r,rfl,h4⟩:=this;exact ⟨r,h2,h3,h4⟩
def zbJ:Nat→List Nat:=fun i=>bif i==0 then [0,2,4,7,8] else []
def zDZ (S:SatT) (K:KT):Kont:=kSeq (cwp S tab zbJ [] (sq Tryz.f149 3 7) (kFun tab (Tryz.f149).results.toList K)) (kFun tab (Tryz.f149).results.toList K)
def W5 (p0_:Pt) (i2:Int) (p4_:Pt) (s7_:Sl) (i8:Int):Frame:=(.ptr p0_::U :: .int .i64 i2::U :: .ptr p4_::U::U :: .sl s7_ :: .int .i64 i8::uu 14 [])
def zxx (S:SatT) (K:KT):(XT)→XT:=fun X fr h=>cwp S tab zbJ (zbJ 0) (sq Tryz.f149 6 52) (kSeq (fun fr h=>X (mask (zbJ 0) fr) h) (kBlk 0 (zDZ S K))) fr h
def zxz (S:SatT) (K:KT) (p0_:Pt) (i2:Int) (p4_:Pt) (s7_:Sl) (i8:Int) (h:H):Prop:=zs (zxx S K) (W5 p0_ i2 p4_ s7_ i8) h
def zxA (S:SatT) (K:KT) (s7_:Sl) (h:H):Prop:=
 K (.sl s7_) h
def zke (S:SatT) (K:KT) (X0:XT) (p0_:Pt) (i2:Int) (p4_:Pt) (s7_:Sl) (i8:Int) (h:H):Prop:=
 bif (decide (i8<i2)) then
 isPt p4_ (
 ldI .i64 (Pt.add p4_ 0) h fun n0=>
 callI S .i64 zZ [.ptr p0_,.int .i64 n0] h fun n2 h1=>
 newS 1 1 [.int .i64 n2] h1 fun s3 h4=>
 app s7_ s3 1 h4 fun s5 h6=>
 X0 (W5 p0_ i2 p4_ s5 (w64 (i8+(1)))) h6)
 else
 zxA S K s7_ h
theorem zoj (S:SatT) (K:KT) (X0:XT) (p0_:Pt) (i2:Int) (p4_:Pt) (s7_:Sl) (i8:Int) (h:H):zxx S K X0 (W5 p0_ i2 p4_ s7_ i8) h=zke S K X0 p0_ i2 p4_ s7_ i8 h:=by kernel_rfl
theorem zoi (S:SatT) (K:KT) (p0_:Pt) (i2:Int) (p4_:Pt) (I_:Sl→Int→H→Prop) (m_:Sl→Int→H→Nat)
  (hs:∀(X0:XT) (s7_:Sl) (i8:Int) (h:H),I_ s7_ i8 h→(∀(s7_':Sl) (i8':Int) (h':H),I_ s7_' i8' h'→m_ s7_' i8' h'<m_ s7_ i8 h→X0 (W5 p0_ i2 p4_ s7_' i8') h')→zke S K X0 p0_ i2 p4_ s7_ i8 h) (s7_:Sl) (i8:Int) {h:H} (h0:I_ s7_ i8 h):zxz S K p0_ i2 p4_ s7_ i8 h:=
 zg (σ :=(Sl)×(Int)) (fun s_=>W5 p0_ i2 p4_ (s_.1) (s_.2)) (fun s_ h=>I_ (s_.1) (s_.2) h) (fun s_ h=>m_ (s_.1) (s_.2) h)
  (fun X s_ h hi hx=>(zoj S K X p0_ i2 p4_ (s_.1) (s_.2) h).mpr (hs X (s_.1) (s_.2) h hi fun s7_' i8' h' hi' hm'=>hx (s7_',i8') h' hi' hm')) (s7_,i8) h0
def W4 (S:SatT) (K:KT) (x0:Pt) (x1:List AVal) (x2:Int) (h:H):Prop:=
 newK 2 x1 h fun p0 h1=>
 newS 0 1 [] h1 fun s2 h3=>
 zxz S K x0 x2 p0 s2 (0) h3
theorem Q0 (S:SatT) (K:KT) (x0:Pt) (x1:List AVal) (x2:Int) (h:H):cwp S tab zbJ [] (za Tryz.f149) (kFun tab Tryz.f149.results.toList K) (fr0 Tryz.f149 [.ptr x0,.agg x1,.int .i64 x2]) h=W4 S K x0 x1 x2 h:=by kernel_rfl
theorem zxy (x0:Pt) (x1:List AVal) (x2:Int) (h:H) (K:Sl→H→Prop) (hm:W4 (Sat Tryz.prog) (fun v h'=>∃r,v = .sl r∧K r h') x0 x1 x2 h):callS (Sat Tryz.prog) zrF [.ptr x0,.agg x1,.int .i64 x2] h K:=by
 have:=Sat.ex tok mixed zbJ Tryz.func149 (c:=za Tryz.f149) (by kernel_rfl) (zd Tryz.func149 (c:=za Tryz.f149) (by kernel_rfl) (by decide)) ((Q0 _ _ x0 x1 x2 h).mpr hm)
 obtain ⟨v,h2,h3,r,rfl,h4⟩:=this;exact ⟨r,h2,h3,h4⟩
def znE:Nat→List Nat:=fun i=>bif i==0 then [1,3] else []
def zJm (S:SatT) (K:KT):Kont:=kSeq (cwp S tab znE [] (sq Tryz.f75 3 7) (kFun tab (Tryz.f75).results.toList K)) (kFun tab (Tryz.f75).results.toList K)
def zbA (p1_:Pt) (i3:Int):Frame:=(U :: .ptr p1_::U :: .int .i64 i3::uu 45 [])
def zGg (S:SatT) (K:KT):(XT)→XT:=fun X fr h=>cwp S tab znE (znE 0) (sq Tryz.f75 6 52) (kSeq (fun fr h=>X (mask (znE 0) fr) h) (kBlk 0 (zJm S K))) fr h
def zGh (S:SatT) (K:KT) (p1_:Pt) (i3:Int) (h:H):Prop:=zs (zGg S K) (zbA p1_ i3) h
def zGi (S:SatT) (K:KT) (h:H):Prop:=
 K (.bool true) h
def ztE (S:SatT) (K:KT) (X0:XT) (p1_:Pt) (i3:Int) (h:H):Prop:=
 isPt p1_ (
 ldS (Pt.add p1_ 1) h fun s0=>
 bif (decide (i3<(s0.len:Int))) then
 isPt p1_ (
 ldI .i64 (Pt.add p1_ 0) h fun n1=>
 isPt p1_ (
 ldS (Pt.add p1_ 1) h fun s2=>
 ixS s2 4 i3 fun p3=>
 ldA p3 4 h fun cs4=>
 callB S zrV [.int .i64 n1,.agg cs4] h fun b6 h5=>
 bif (!b6) then
 K (.bool false) h5
 else
 bif (decide (i3>(0))) then
 isPt p1_ (
 ldS (Pt.add p1_ 1) h5 fun s7=>
 ixS s7 4 (w64 (i3-(1))) fun p8=>
 ldA p8 4 h5 fun cs9=>
 isPt p1_ (
 ldS (Pt.add p1_ 1) h5 fun s10=>
 ixS s10 4 i3 fun p11=>
 ldA p11 4 h5 fun cs12=>
 callB S zlT [.agg cs9,.agg cs12] h5 fun b14 h13=>
 bif (!b14) then
 K (.bool false) h13
 else
 X0 (zbA p1_ (w64 (i3+(1)))) h13))
 else
 X0 (zbA p1_ (w64 (i3+(1)))) h5))
 else
 zGi S K h)
theorem ztD (S:SatT) (K:KT) (X0:XT) (p1_:Pt) (i3:Int) (h:H):zGg S K X0 (zbA p1_ i3) h=ztE S K X0 p1_ i3 h:=by kernel_rfl
theorem ztC (S:SatT) (K:KT) (p1_:Pt) (I_:Int→H→Prop) (m_:Int→H→Nat)
  (hs:∀(X0:XT) (i3:Int) (h:H),I_ i3 h→(∀(i3':Int) (h':H),I_ i3' h'→m_ i3' h'<m_ i3 h→X0 (zbA p1_ i3') h')→ztE S K X0 p1_ i3 h) (i3:Int) {h:H} (h0:I_ i3 h):zGh S K p1_ i3 h:=
 zg (σ :=(Int)) (fun s_=>zbA p1_ (s_)) (fun s_ h=>I_ (s_) h) (fun s_ h=>m_ (s_) h)
  (fun X s_ h hi hx=>(ztD S K X p1_ (s_) h).mpr (hs X (s_) h hi fun i3' h' hi' hm'=>hx (i3') h' hi' hm')) (i3) h0
def zdC (S:SatT) (K:KT) (x0:List AVal) (h:H):Prop:=
 newK 2 x0 h fun p0 h1=>
 isPt p0 (
 ldI .i64 (Pt.add p0 0) h1 fun n2=>
 callB S We [.int .i64 n2,.int .i64 (1),.int .i64 (6)] h1 fun b4 h3=>
 bif (!b4) then
 K (.bool false) h3
 else
 isPt p0 (
 ldS (Pt.add p0 1) h3 fun s5=>
 bif (decide ((s5.len:Int)>(16))) then
 K (.bool false) h3
 else
 zGh S K p0 (0) h3))
theorem zdB (S:SatT) (K:KT) (x0:List AVal) (h:H):cwp S tab znE [] (za Tryz.f75) (kFun tab Tryz.f75.results.toList K) (fr0 Tryz.f75 [.agg x0]) h=zdC S K x0 h:=by kernel_rfl
theorem zCF (x0:List AVal) (h:H) (K:Bool→H→Prop) (hm:zdC (Sat Tryz.prog) (fun v h'=>∃r,v = .bool r∧K r h') x0 h):callB (Sat Tryz.prog) zcy [.agg x0] h K:=by
 have:=Sat.ex tok mixed znE Tryz.func75 (c:=za Tryz.f75) (by kernel_rfl) (zd Tryz.func75 (c:=za Tryz.f75) (by kernel_rfl) (by decide)) ((zdB _ _ x0 h).mpr hm)
 obtain ⟨v,h2,h3,r,rfl,h4⟩:=this;exact ⟨r,h2,h3,h4⟩
def znG:Nat→List Nat:=fun i=>bif i==0 then [0,3,4] else []
def zJo (S:SatT) (K:KT):Kont:=kSeq (cwp S tab znG [] (sq Tryz.f71 3 7) (kFun tab (Tryz.f71).results.toList K)) (kFun tab (Tryz.f71).results.toList K)
def zhH (s0_:Sl) (p3_:Pt) (i4:Int):Frame:=(.sl s0_::U::U :: .ptr p3_ :: .int .i64 i4::uu 33 [])
def zGm (S:SatT) (K:KT):(XT)→XT:=fun X fr h=>cwp S tab znG (znG 0) (sq Tryz.f71 6 52) (kSeq (fun fr h=>X (mask (znG 0) fr) h) (kBlk 0 (zJo S K))) fr h
def zGn (S:SatT) (K:KT) (s0_:Sl) (p3_:Pt) (i4:Int) (h:H):Prop:=zs (zGm S K) (zhH s0_ p3_ i4) h
def ztL (S:SatT) (K:KT) (p3_:Pt) (h:H):Prop:=
 K (.ptr p3_) h
def ztK (S:SatT) (K:KT) (X0:XT) (s0_:Sl) (p3_:Pt) (i4:Int) (h:H):Prop:=
 bif (decide (i4<(s0_.len:Int))) then
 bif (decide (i4<(4096))) then
 nilC (.ptr p3_) (
 isPt p3_ (
 ldI .u64 (Pt.add p3_ 2) h fun n0=>
 ixS s0_ 1 i4 fun p1=>
 ldI .u8 p1 h fun n2=>
 nilC (.ptr p3_) (
 isPt p3_ (
 st1 (Pt.add p3_ 2) (.int .u64 (IntKind.wrap .u64 ((IntKind.wrap .u64 ((IntKind.wrap .u64 (n0*(1099511628211)))+(IntKind.wrap .u64 (n2))))+(191)))) h fun h3=>
 X0 (zhH s0_ p3_ (w64 (i4+(1)))) h3))))
 else
 ztL S K p3_ h
 else
 ztL S K p3_ h
theorem ztJ (S:SatT) (K:KT) (X0:XT) (s0_:Sl) (p3_:Pt) (i4:Int) (h:H):zGm S K X0 (zhH s0_ p3_ i4) h=ztK S K X0 s0_ p3_ i4 h:=by kernel_rfl
theorem ztI (S:SatT) (K:KT) (s0_:Sl) (p3_:Pt) (I_:Int→H→Prop) (m_:Int→H→Nat)
  (hs:∀(X0:XT) (i4:Int) (h:H),I_ i4 h→(∀(i4':Int) (h':H),I_ i4' h'→m_ i4' h'<m_ i4 h→X0 (zhH s0_ p3_ i4') h')→ztK S K X0 s0_ p3_ i4 h) (i4:Int) {h:H} (h0:I_ i4 h):zGn S K s0_ p3_ i4 h:=
 zg (σ :=(Int)) (fun s_=>zhH s0_ p3_ (s_)) (fun s_ h=>I_ (s_) h) (fun s_ h=>m_ (s_) h)
  (fun X s_ h hi hx=>(ztJ S K X s0_ p3_ (s_) h).mpr (hs X (s_) h hi fun i4' h' hi' hm'=>hx (i4') h' hi' hm')) (i4) h0
def zdI (S:SatT) (K:KT) (x0:Sl) (h:H):Prop:=
 newK 3 [.sl x0,.int .i64 (0),.int .u64 (IntKind.wrap .u64 ((13541)+(IntKind.wrap .u64 ((x0.len:Int)))))] h fun p0 h1=>
 zGn S K x0 p0 (0) h1
theorem zdH (S:SatT) (K:KT) (x0:Sl) (h:H):cwp S tab znG [] (za Tryz.f71) (kFun tab Tryz.f71.results.toList K) (fr0 Tryz.f71 [.sl x0]) h=zdI S K x0 h:=by kernel_rfl
theorem zCI (x0:Sl) (h:H) (K:Pt→H→Prop) (hm:zdI (Sat Tryz.prog) (fun v h'=>∃r,v = .ptr r∧K r h') x0 h):callP (Sat Tryz.prog) zjn [.sl x0] h K:=by
 have:=Sat.ex tok mixed znG Tryz.func71 (c:=za Tryz.f71) (by kernel_rfl) (zd Tryz.func71 (c:=za Tryz.f71) (by kernel_rfl) (by decide)) ((zdH _ _ x0 h).mpr hm)
 obtain ⟨v,h2,h3,r,rfl,h4⟩:=this;exact ⟨r,h2,h3,h4⟩
def zbQ:Nat→List Nat:=fun i=>bif i==0 then [1,2,5] else []
def zEj (S:SatT) (K:KT):Kont:=kSeq (cwp S tab zbQ [] (sq Tryz.f129 2 3) (kFun tab (Tryz.f129).results.toList K)) (kFun tab (Tryz.f129).results.toList K)
def VC (s1_:Sl) (p2_:Pt) (i5:Int):Frame:=(U :: .sl s1_ :: .ptr p2_::U::U :: .int .i64 i5::uu 15 [])
def zyJ (S:SatT) (K:KT):(XT)→XT:=fun X fr h=>cwp S tab zbQ (zbQ 0) (sq Tryz.f129 5 20) (kSeq (fun fr h=>X (mask (zbQ 0) fr) h) (kBlk 0 (zEj S K))) fr h
def zyL (S:SatT) (K:KT) (s1_:Sl) (p2_:Pt) (i5:Int) (h:H):Prop:=zs (zyJ S K) (VC s1_ p2_ i5) h
def zyM (S:SatT) (K:KT) (h:H):Prop:=
 K (.bool true) h
def zkt (S:SatT) (K:KT) (X0:XT) (s1_:Sl) (p2_:Pt) (i5:Int) (h:H):Prop:=
 bif (decide (i5<(s1_.len:Int))) then
 ixS s1_ 1 i5 fun p0=>
 ldI .i64 p0 h fun n1=>
 isPt p2_ (
 ldI .i64 (Pt.add p2_ 0) h fun n2=>
 callB S We [.int .i64 n1,.int .i64 (0),.int .i64 (w64 (n2-(1)))] h fun b4 h3=>
 bif (!b4) then
 K (.bool false) h3
 else
 X0 (VC s1_ p2_ (w64 (i5+(1)))) h3)
 else
 zyM S K h
theorem zoO (S:SatT) (K:KT) (X0:XT) (s1_:Sl) (p2_:Pt) (i5:Int) (h:H):zyJ S K X0 (VC s1_ p2_ i5) h=zkt S K X0 s1_ p2_ i5 h:=by kernel_rfl
theorem zoN (S:SatT) (K:KT) (s1_:Sl) (p2_:Pt) (I_:Int→H→Prop) (m_:Int→H→Nat)
  (hs:∀(X0:XT) (i5:Int) (h:H),I_ i5 h→(∀(i5':Int) (h':H),I_ i5' h'→m_ i5' h'<m_ i5 h→X0 (VC s1_ p2_ i5') h')→zkt S K X0 s1_ p2_ i5 h) (i5:Int) {h:H} (h0:I_ i5 h):zyL S K s1_ p2_ i5 h:=
 zg (σ :=(Int)) (fun s_=>VC s1_ p2_ (s_)) (fun s_ h=>I_ (s_) h) (fun s_ h=>m_ (s_) h)
  (fun X s_ h hi hx=>(zoO S K X s1_ p2_ (s_) h).mpr (hs X (s_) h hi fun i5' h' hi' hm'=>hx (i5') h' hi' hm')) (i5) h0
def VB (S:SatT) (K:KT) (x0:List AVal) (x1:Sl) (h:H):Prop:=
 newK 2 x0 h fun p0 h1=>
 zyL S K x1 p0 (0) h1
theorem zak (S:SatT) (K:KT) (x0:List AVal) (x1:Sl) (h:H):cwp S tab zbQ [] (za Tryz.f129) (kFun tab Tryz.f129.results.toList K) (fr0 Tryz.f129 [.agg x0,.sl x1]) h=VB S K x0 x1 h:=by kernel_rfl
theorem zyK (x0:List AVal) (x1:Sl) (h:H) (K:Bool→H→Prop) (hm:VB (Sat Tryz.prog) (fun v h'=>∃r,v = .bool r∧K r h') x0 x1 h):callB (Sat Tryz.prog) ZL [.agg x0,.sl x1] h K:=by
 have:=Sat.ex tok mixed zbQ Tryz.func129 (c:=za Tryz.f129) (by kernel_rfl) (zd Tryz.func129 (c:=za Tryz.f129) (by kernel_rfl) (by decide)) ((zak _ _ x0 x1 h).mpr hm)
 obtain ⟨v,h2,h3,r,rfl,h4⟩:=this;exact ⟨r,h2,h3,h4⟩
def f9_M:Nat→List Nat:=fun i=>bif i==0 then [0,1,5] else []
def zMf (S:SatT) (K:KT):Kont:=kSeq (cwp S tab f9_M [] (sq Tryz.f11 3 7) (kFun tab (Tryz.f11).results.toList K)) (kFun tab (Tryz.f11).results.toList K)
def zsh (s0_ s1_:Sl) (i5:Int):Frame:=(.sl s0_ :: .sl s1_::U::U::U :: .int .i64 i5::uu 21 [])
def zMe (S:SatT) (K:KT):(XT)→XT:=fun X fr h=>cwp S tab f9_M (f9_M 0) (sq Tryz.f11 6 52) (kSeq (fun fr h=>X (mask (f9_M 0) fr) h) (kBlk 0 (zMf S K))) fr h
def zMg (S:SatT) (K:KT) (s0_ s1_:Sl) (i5:Int) (h:H):Prop:=zs (zMe S K) (zsh s0_ s1_ i5) h
def zMh (S:SatT) (K:KT) (h:H):Prop:=
 K (.bool true) h
def zJf (S:SatT) (K:KT) (X0:XT) (s0_ s1_:Sl) (i5:Int) (h:H):Prop:=
 bif (decide (i5<(s0_.len:Int))) then
 ixS s0_ 1 i5 fun p0=>
 ldS p0 h fun s1=>
 ixS s1_ 1 i5 fun p2=>
 ldS p2 h fun s3=>
 callB S zBW [.sl s1,.sl s3] h fun b5 h4=>
 bif (!b5) then
 K (.bool false) h4
 else
 X0 (zsh s0_ s1_ (w64 (i5+(1)))) h4
 else
 zMh S K h
theorem zCd (S:SatT) (K:KT) (X0:XT) (s0_ s1_:Sl) (i5:Int) (h:H):zMe S K X0 (zsh s0_ s1_ i5) h=zJf S K X0 s0_ s1_ i5 h:=by kernel_rfl
theorem zCc (S:SatT) (K:KT) (s0_ s1_:Sl) (I_:Int→H→Prop) (m_:Int→H→Nat)
  (hs:∀(X0:XT) (i5:Int) (h:H),I_ i5 h→(∀(i5':Int) (h':H),I_ i5' h'→m_ i5' h'<m_ i5 h→X0 (zsh s0_ s1_ i5') h')→zJf S K X0 s0_ s1_ i5 h) (i5:Int) {h:H} (h0:I_ i5 h):zMg S K s0_ s1_ i5 h:=
 zg (σ :=(Int)) (fun s_=>zsh s0_ s1_ (s_)) (fun s_ h=>I_ (s_) h) (fun s_ h=>m_ (s_) h)
  (fun X s_ h hi hx=>(zCd S K X s0_ s1_ (s_) h).mpr (hs X (s_) h hi fun i5' h' hi' hm'=>hx (i5') h' hi' hm')) (i5) h0
def zjq (S:SatT) (K:KT) (x0 x1:Sl) (h:H):Prop:=
 bif ((x0.len:Int) != (x1.len:Int)) then
 K (.bool false) h
 else
 zMg S K x0 x1 (0) h
theorem zhu (S:SatT) (K:KT) (x0 x1:Sl) (h:H):cwp S tab f9_M [] (za Tryz.f11) (kFun tab Tryz.f11.results.toList K) (fr0 Tryz.f11 [.sl x0,.sl x1]) h=zjq S K x0 x1 h:=by kernel_rfl
theorem zJe (x0 x1:Sl) (h:H) (K:Bool→H→Prop) (hm:zjq (Sat Tryz.prog) (fun v h'=>∃r,v = .bool r∧K r h') x0 x1 h):callB (Sat Tryz.prog) i_f9 [.sl x0,.sl x1] h K:=by
 have:=Sat.ex tok mixed f9_M Tryz.func11 (c:=za Tryz.f11) (by kernel_rfl) (zd Tryz.func11 (c:=za Tryz.f11) (by kernel_rfl) (by decide)) ((zhu _ _ x0 x1 h).mpr hm)
 obtain ⟨v,h2,h3,r,rfl,h4⟩:=this;exact ⟨r,h2,h3,h4⟩
def zHE:Nat→List Nat:=fun i=>[]
def Vt (S:SatT) (K:KT) (x0:List AVal) (x1 x2:Int) (x3 x4:Int) (h:H):Prop:=
 newK 2 x0 h fun p0 h1=>
 isPt p0 (
 ldI .i64 (Pt.add p0 0) h1 fun n2=>
 isPt p0 (
 ldS (Pt.add p0 1) h1 fun s3=>
 ixS s3 4 x4 fun p4=>
 ldA p4 4 h1 fun cs5=>
 newO [.int .i64 (0),.int .i64 (0),.int .i64 (0),.int .i64 (0)] h1 fun p6 h7=>
(range h7 p4.o p4.n p4.off 4=range h1 p4.o p4.n p4.off 4)∧(
(cell h7 (Pt.add p0 1)=cell h1 (Pt.add p0 1))∧(
(cell h7 (Pt.add p0 0)=cell h1 (Pt.add p0 0))∧(
 stN p6 4 cs5 h7 fun h8=>
 nz x1 (
 callI S .i64 zcx [.int .i64 n2,.int .i64 (Int.tmod x3 x1)] h8 fun n10 h9=>
 callI S .i64 zcx [.int .i64 n2,.int .i64 x1] h9 fun n12 h11=>
 ixA p6 4 1 (3) fun p13=>
 ldI .i64 p13 h11 fun n14=>
 nz n10 (
 nz n2 (
 ixA p6 4 1 (2) fun p15=>
 ldI .i64 p15 h11 fun n16=>
 nz n12 (
 K (.int .i64 (w64 ((w64 (x2+(w64 ((w64 (n14-(Int.tmod (w64 (Int.tdiv x2 n10)) n2)))*n10))))+(w64 ((w64 (n16-(w64 (Int.tdiv x2 n12))))*n12))))) h11)))))))))
theorem zah (S:SatT) (K:KT) (x0:List AVal) (x1 x2:Int) (x3 x4:Int) (h:H):cwp S tab zHE [] (za Tryz.f132) (kFun tab Tryz.f132.results.toList K) (fr0 Tryz.f132 [.agg x0,.int .i64 x1,.int .i64 x2,.int .i64 x3,.int .i64 x4]) h=Vt S K x0 x1 x2 x3 x4 h:=by kernel_rfl
theorem zys (x0:List AVal) (x1 x2:Int) (x3 x4:Int) (h:H) (K:Int→H→Prop) (hm:Vt (Sat Tryz.prog) (fun v h'=>∃r,v = .int .i64 r∧K r h') x0 x1 x2 x3 x4 h):callI (Sat Tryz.prog) .i64 zrP [.agg x0,.int .i64 x1,.int .i64 x2,.int .i64 x3,.int .i64 x4] h K:=by
 have:=Sat.ex tok mixed zHE Tryz.func132 (c:=za Tryz.f132) (by kernel_rfl) (zd Tryz.func132 (c:=za Tryz.f132) (by kernel_rfl) (by decide)) ((zah _ _ x0 x1 x2 x3 x4 h).mpr hm)
 obtain ⟨v,h2,h3,r,rfl,h4⟩:=this;exact ⟨r,h2,h3,h4⟩
def zMt:Nat→List Nat:=fun i=>[]
def zdA (S:SatT) (K:KT) (x0:Pt) (x1:Int) (h:H):Prop:=
 bif (decide (x1<(1))) then
 K (.int .i64 (0)) h
 else
 nilC (.ptr x0) (
 isPt x0 (
 ldI .u64 (Pt.add x0 2) h fun n0=>
 nilC (.ptr x0) (
 isPt x0 (
 st1 (Pt.add x0 2) (.int .u64 (IntKind.wrap .u64 ((IntKind.wrap .u64 (n0*(6364136223846793005)))+(1442695040888963407)))) h fun h1=>
 nilC (.ptr x0) (
 isPt x0 (
 ldI .u64 (Pt.add x0 2) h1 fun n2=>
 nn (33) (
 nilC (.ptr x0) (
 isPt x0 (
 ldI .i64 (Pt.add x0 1) h1 fun n3=>
 nilC (.ptr x0) (
 isPt x0 (
 ldS (Pt.add x0 0) h1 fun s4=>
 bif (decide (n3<(s4.len:Int))) then
 nilC (.ptr x0) (
 isPt x0 (
 ldS (Pt.add x0 0) h1 fun s5=>
 nilC (.ptr x0) (
 isPt x0 (
 ldI .i64 (Pt.add x0 1) h1 fun n6=>
 ixS s5 1 n6 fun p7=>
 ldI .u8 p7 h1 fun n8=>
 nilC (.ptr x0) (
 isPt x0 (
 ldI .i64 (Pt.add x0 1) h1 fun n9=>
 nilC (.ptr x0) (
 isPt x0 (
 st1 (Pt.add x0 1) (.int .i64 (w64 (n9+(1)))) h1 fun h10=>
 nz x1 (
 K (.int .i64 (Int.tmod (w64 ((w64 ((yj .and .u64 (shrI .u64 n2 (33)) (16777215))))+(w64 (n8)))) x1)) h10)))))))))
 else
 nz x1 (
 K (.int .i64 (Int.tmod (w64 ((yj .and .u64 (shrI .u64 n2 (33)) (16777215)))) x1)) h1))))))))))))
theorem zdz (S:SatT) (K:KT) (x0:Pt) (x1:Int) (h:H):cwp S tab zMt [] (za Tryz.f76) (kFun tab Tryz.f76.results.toList K) (fr0 Tryz.f76 [.ptr x0,.int .i64 x1]) h=zdA S K x0 x1 h:=by kernel_rfl
theorem zCE (x0:Pt) (x1:Int) (h:H) (K:Int→H→Prop) (hm:zdA (Sat Tryz.prog) (fun v h'=>∃r,v = .int .i64 r∧K r h') x0 x1 h):callI (Sat Tryz.prog) .i64 zZ [.ptr x0,.int .i64 x1] h K:=by
 have:=Sat.ex tok mixed zMt Tryz.func76 (c:=za Tryz.f76) (by kernel_rfl) (zd Tryz.func76 (c:=za Tryz.f76) (by kernel_rfl) (by decide)) ((zdz _ _ x0 x1 h).mpr hm)
 obtain ⟨v,h2,h3,r,rfl,h4⟩:=this;exact ⟨r,h2,h3,h4⟩
def zMp:Nat→List Nat:=fun i=>[]
def zcT (S:SatT) (K:KT) (x0:Pt) (x1:AVal) (h:H):Prop:=
 newO [.ptr x0] h fun p0 h1=>
 bif (AVal.isCell x1&&true) then
 newO [x1] h1 fun p2 h3=>
 ldP p0 h3 fun p4=>
 nilC (.ptr p4) (
 isPt p4 (
 ldS (Pt.add p4 2) h3 fun s5=>
 ixS s5 1 (0) fun p6=>
 ldS p6 h3 fun s7=>
 newO [.int .i64 (0)] h3 fun p8 h9=>
 st1 p8 (.int .i64 (s7.len:Int)) h9 fun h10=>
 newO [.nilFunc] h10 fun p11 h12=>
 st1 p11 (.func 133 [.ptr p0,.ptr p8,.ptr p2,.ptr p11]) h12 fun h13=>
 ldP p0 h13 fun p14=>
 nilC (.ptr p14) (
 isPt p14 (
 ldS (Pt.add p14 6) h13 fun s15=>
 ixS s15 1 (0) fun p16=>
 ldS p16 h13 fun s17=>
 ixS s17 1 (0) fun p18=>
 ldB p18 h13 fun b19=>
 bif b19 then
 ldV p11 h13 fun v20=>
 viaF v20 [.sl Sl.nil,.int .i64 (0)] fun g21 ys22=>
 callB S g21 ys22 h13 fun b24 h23=>
 K (.tuple []) h23
 else
 K (.tuple []) h13))))
 else False
theorem zcS (S:SatT) (K:KT) (x0:Pt) (x1:AVal) (h:H):cwp S tab zMp [] (za Tryz.f93) (kFun tab Tryz.f93.results.toList K) (fr0 Tryz.f93 [.ptr x0,x1]) h=zcT S K x0 x1 h:=by kernel_rfl
theorem zCm (x0:Pt) (x1:AVal) (h:H) (K:KT) (hm:zcT (Sat Tryz.prog) (fun v h'=>K v h') x0 x1 h):callV (Sat Tryz.prog) zIH [.ptr x0,x1] h K:=by
 have:=Sat.ex tok mixed zMp Tryz.func93 (c:=za Tryz.f93) (by kernel_rfl) (zd Tryz.func93 (c:=za Tryz.f93) (by kernel_rfl) (by decide)) ((zcS _ _ x0 x1 h).mpr hm)
 exact this
def zHB:Nat→List Nat:=fun i=>[]
def Vi (S:SatT) (K:KT) (x0:Int) (x1:Sl) (h:H):Prop:=
 newO [.int .i64 (0),.sl Sl.nil] h fun p0 h1=>
 callV S zrB [.sl x1] h1 fun v3 h2=>
 callS S zrC [v3,.func 116 []] h2 fun s5 h4=>
 callS S zrA [.sl s5] h4 fun s7 h6=>
 newO [.int .i64 (0),.sl Sl.nil] h6 fun p8 h9=>
 stN p8 2 [.int .i64 x0,.sl s7] h9 fun h10=>
 ldA p8 2 h10 fun cs11=>
 isPt p8 (
 ldI .i64 (Pt.add p8 0) h10 fun n12=>
 bif (decide (n12≤(6))) then
 isPt p8 (
 ldS (Pt.add p8 1) h10 fun s13=>
 stN p0 2 cs11 h10 fun h14=>
(cell h14 (Pt.add p8 1)=cell h10 (Pt.add p8 1))∧(
 ldA p0 2 h14 fun cs15=>
 K (.tuple [.agg cs15,.bool (decide ((s13.len:Int)≤(16)))]) h14))
 else
 stN p0 2 cs11 h10 fun h16=>
 ldA p0 2 h16 fun cs17=>
 K (.tuple [.agg cs17,.bool false]) h16)
theorem zaa (S:SatT) (K:KT) (x0:Int) (x1:Sl) (h:H):cwp S tab zHB [] (za Tryz.f140) (kFun tab Tryz.f140.results.toList K) (fr0 Tryz.f140 [.int .i64 x0,.sl x1]) h=Vi S K x0 x1 h:=by kernel_rfl
theorem zxT (x0:Int) (x1:Sl) (h:H) (K:KT) (hm:Vi (Sat Tryz.prog) (fun v h'=>K v h') x0 x1 h):callV (Sat Tryz.prog) zrL [.int .i64 x0,.sl x1] h K:=by
 have:=Sat.ex tok mixed zHB Tryz.func140 (c:=za Tryz.f140) (by kernel_rfl) (zd Tryz.func140 (c:=za Tryz.f140) (by kernel_rfl) (by decide)) ((zaa _ _ x0 x1 h).mpr hm)
 exact this
def zMH:Nat→List Nat:=fun i=>[]
def zew (S:SatT) (K:KT) (x0:List AVal) (x1 x2:Sl) (h:H):Prop:=
 newK 2 x0 h fun p0 h1=>
 ldA p0 2 h1 fun cs2=>
 callI S .i64 znr [.agg cs2,.sl x1,.sl x2] h1 fun n4 h3=>
 bif (n4 != (0)) then
 K (.tuple [.sl Sl.nil,.int .i64 n4]) h3
 else
 newO [.sl Sl.nil] h3 fun p5 h6=>
 st1 p5 (.sl Sl.nil) h6 fun h7=>
 ldA p0 2 h7 fun cs8=>
 callP S zhh [.agg cs8,.sl x1,.sl x2] h7 fun p10 h9=>
 callV S zIH [.ptr p10,.func 94 [.ptr p5]] h9 fun v12 h11=>
 ldS p5 h11 fun s13=>
 bif (ZK s13) then
 K (.tuple [.sl Sl.nil,.int .i64 (4)]) h11
 else
 ldS p5 h11 fun s14=>
 K (.tuple [.sl s14,.int .i64 (0)]) h11
theorem zev (S:SatT) (K:KT) (x0:List AVal) (x1 x2:Sl) (h:H):cwp S tab zMH [] (za Tryz.f32) (kFun tab Tryz.f32.results.toList K) (fr0 Tryz.f32 [.agg x0,.sl x1,.sl x2]) h=zew S K x0 x1 x2 h:=by kernel_rfl
theorem zDe (x0:List AVal) (x1 x2:Sl) (h:H) (K:KT) (hm:zew (Sat Tryz.prog) (fun v h'=>K v h') x0 x1 x2 h):callV (Sat Tryz.prog) zIU [.agg x0,.sl x1,.sl x2] h K:=by
 have:=Sat.ex tok mixed zMH Tryz.func32 (c:=za Tryz.f32) (by kernel_rfl) (zd Tryz.func32 (c:=za Tryz.f32) (by kernel_rfl) (by decide)) ((zev _ _ x0 x1 x2 h).mpr hm)
 exact this
def zHq:Nat→List Nat:=fun i=>[]
def WA (S:SatT) (K:KT) (x0 x1:Int) (h:H):Prop:=
 callB S zlM [.int .i64 x0] h fun b1 h0=>
 callB S zlM [.int .i64 x1] h0 fun b3 h2=>
 bif b1 then
 bif b3 then
 K (.int .i64 (0)) h2
 else
 K (.int .i64 (-1)) h2
 else
 bif b3 then
 K (.int .i64 (1)) h2
 else
 bif (decide (x0<x1)) then
 K (.int .i64 (-1)) h2
 else
 bif (decide (x0>x1)) then
 K (.int .i64 (1)) h2
 else
 K (.int .i64 (0)) h2
theorem QF (S:SatT) (K:KT) (x0 x1:Int) (h:H):cwp S tab zHq [] (za Tryz.f163) (kFun tab Tryz.f163.results.toList K) (fr0 Tryz.f163 [.int .i64 x0,.int .i64 x1]) h=WA S K x0 x1 h:=by kernel_rfl
theorem zwj (x0 x1:Int) (h:H) (K:Int→H→Prop) (hm:WA (Sat Tryz.prog) (fun v h'=>∃r,v = .int .i64 r∧K r h') x0 x1 h):callI (Sat Tryz.prog) .i64 zrw [.int .i64 x0,.int .i64 x1] h K:=by
 have:=Sat.ex tok mixed zHq Tryz.func163 (c:=za Tryz.f163) (by kernel_rfl) (zd Tryz.func163 (c:=za Tryz.f163) (by kernel_rfl) (by decide)) ((QF _ _ x0 x1 h).mpr hm)
 obtain ⟨v,h2,h3,r,rfl,h4⟩:=this;exact ⟨r,h2,h3,h4⟩
def zHH:Nat→List Nat:=fun i=>[]
def V7 (S:SatT) (K:KT) (x0 x1 x2:Pt) (h:H):Prop:=
 ldA x0 2 h fun cs0=>
 ldS x1 h fun s1=>
 callB S zrS [.agg cs0,.sl s1] h fun b3 h2=>
 bif b3 then
 ldA x0 2 h2 fun cs4=>
 ldS x1 h2 fun s5=>
 ldS x2 h2 fun s6=>
 callB S zrR [.agg cs4,.sl s5,.sl s6] h2 fun b8 h7=>
 K (.bool b8) h7
 else
 K (.bool false) h2
theorem zaz (S:SatT) (K:KT) (x0 x1 x2:Pt) (h:H):cwp S tab zHH [] (za Tryz.f124) (kFun tab Tryz.f124.results.toList K) (fr0 Tryz.f124 [.ptr x0,.ptr x1,.ptr x2]) h=V7 S K x0 x1 x2 h:=by kernel_rfl
theorem zzA (x0 x1 x2:Pt) (h:H) (K:Bool→H→Prop) (hm:V7 (Sat Tryz.prog) (fun v h'=>∃r,v = .bool r∧K r h') x0 x1 x2 h):callB (Sat Tryz.prog) zLZ [.ptr x0,.ptr x1,.ptr x2] h K:=by
 have:=Sat.ex tok mixed zHH Tryz.func124 (c:=za Tryz.f124) (by kernel_rfl) (zd Tryz.func124 (c:=za Tryz.f124) (by kernel_rfl) (by decide)) ((zaz _ _ x0 x1 x2 h).mpr hm)
 obtain ⟨v,h2,h3,r,rfl,h4⟩:=this;exact ⟨r,h2,h3,h4⟩
def zHQ:Nat→List Nat:=fun i=>[]
def Qs (S:SatT) (K:KT) (x0:List AVal) (h:H):Prop:=
 newK 4 x0 h fun p0 h1=>
 newO [.int .i64 (0),.int .i64 (0),.int .i64 (0),.int .i64 (0)] h1 fun p2 h3=>
 ldA p0 4 h3 fun cs4=>
 callA S zBR [.agg cs4,.int .i64 (0),.int .i64 (3),.int .i64 (2),.int .i64 (1)] h3 fun cs6 h5=>
 stN p2 4 cs6 h5 fun h7=>
 ldA p2 4 h7 fun cs8=>
 K (.agg cs8) h7
theorem zaN (S:SatT) (K:KT) (x0:List AVal) (h:H):cwp S tab zHQ [] (za Tryz.f103) (kFun tab Tryz.f103.results.toList K) (fr0 Tryz.f103 [.agg x0]) h=Qs S K x0 h:=by kernel_rfl
theorem zAo (x0:List AVal) (h:H) (K:List AVal→H→Prop) (hm:Qs (Sat Tryz.prog) (fun v h'=>∃r,v = .agg r∧K r h') x0 h):callA (Sat Tryz.prog) zsa [.agg x0] h K:=by
 have:=Sat.ex tok mixed zHQ Tryz.func103 (c:=za Tryz.f103) (by kernel_rfl) (zd Tryz.func103 (c:=za Tryz.f103) (by kernel_rfl) (by decide)) ((zaN _ _ x0 h).mpr hm)
 obtain ⟨v,h2,h3,r,rfl,h4⟩:=this;exact ⟨r,h2,h3,h4⟩
def zMB:Nat→List Nat:=fun i=>[]
def zeg (S:SatT) (K:KT) (x0:List AVal) (h:H):Prop:=
 newK 2 x0 h fun p0 h1=>
 newO [.int .i64 (0),.sl Sl.nil] h1 fun p2 h3=>
 ldA p0 2 h3 fun cs4=>
 callV S zBS [.agg cs4,.func 102 []] h3 fun v6 h5=>
 viaT v6 fun vs7=>
 exA vs7 0 fun cs8=>
 viaT v6 fun vs9=>
 exI .i64 vs9 1 fun n10=>
 stN p2 2 cs8 h5 fun h11=>
 ldA p2 2 h11 fun cs12=>
 K (.tuple [.agg cs12,.int .i64 n10]) h11
theorem zef (S:SatT) (K:KT) (x0:List AVal) (h:H):cwp S tab zMB [] (za Tryz.f40) (kFun tab Tryz.f40.results.toList K) (fr0 Tryz.f40 [.agg x0]) h=zeg S K x0 h:=by kernel_rfl
theorem zCW (x0:List AVal) (h:H) (K:KT) (hm:zeg (Sat Tryz.prog) (fun v h'=>K v h') x0 h):callV (Sat Tryz.prog) zIQ [.agg x0] h K:=by
 have:=Sat.ex tok mixed zMB Tryz.func40 (c:=za Tryz.f40) (by kernel_rfl) (zd Tryz.func40 (c:=za Tryz.f40) (by kernel_rfl) (by decide)) ((zef _ _ x0 h).mpr hm)
 exact this
def zHp:Nat→List Nat:=fun i=>[]
def Wz (S:SatT) (K:KT) (x0:Int) (x1:Pt) (h:H):Prop:=
 isPt x1 (
 ldI .i64 (Pt.add x1 0) h fun n0=>
 callB S Wf [.int .i64 x0,.int .i64 (0),.int .i64 (w64 (n0-(1)))] h fun b2 h1=>
 K (.bool (!b2)) h1)
theorem QE (S:SatT) (K:KT) (x0:Int) (x1:Pt) (h:H):cwp S tab zHp [] (za Tryz.f164) (kFun tab Tryz.f164.results.toList K) (fr0 Tryz.f164 [.int .i64 x0,.ptr x1]) h=Wz S K x0 x1 h:=by kernel_rfl
theorem zwi (x0:Int) (x1:Pt) (h:H) (K:Bool→H→Prop) (hm:Wz (Sat Tryz.prog) (fun v h'=>∃r,v = .bool r∧K r h') x0 x1 h):callB (Sat Tryz.prog) zER [.int .i64 x0,.ptr x1] h K:=by
 have:=Sat.ex tok mixed zHp Tryz.func164 (c:=za Tryz.f164) (by kernel_rfl) (zd Tryz.func164 (c:=za Tryz.f164) (by kernel_rfl) (by decide)) ((QE _ _ x0 x1 h).mpr hm)
 obtain ⟨v,h2,h3,r,rfl,h4⟩:=this;exact ⟨r,h2,h3,h4⟩
def zHD:Nat→List Nat:=fun i=>[]
def Vr (S:SatT) (K:KT) (x0:Sl) (h:H):Prop:=
 bif (ZK x0) then
 K (.sl Sl.nil) h
 else
 newS 0 1 [] h fun s0 h1=>
 app s0 x0 1 h1 fun s2 h3=>
 K (.sl s2) h3
theorem zaf (S:SatT) (K:KT) (x0:Sl) (h:H):cwp S tab zHD [] (za Tryz.f134) (kFun tab Tryz.f134.results.toList K) (fr0 Tryz.f134 [.sl x0]) h=Vr S K x0 h:=by kernel_rfl
theorem zyl (x0:Sl) (h:H) (K:Sl→H→Prop) (hm:Vr (Sat Tryz.prog) (fun v h'=>∃r,v = .sl r∧K r h') x0 h):callS (Sat Tryz.prog) zrN [.sl x0] h K:=by
 have:=Sat.ex tok mixed zHD Tryz.func134 (c:=za Tryz.f134) (by kernel_rfl) (zd Tryz.func134 (c:=za Tryz.f134) (by kernel_rfl) (by decide)) ((zaf _ _ x0 h).mpr hm)
 obtain ⟨v,h2,h3,r,rfl,h4⟩:=this;exact ⟨r,h2,h3,h4⟩
def zHn:Nat→List Nat:=fun i=>[]
def Wx (S:SatT) (K:KT) (x0:AVal) (h:H):Prop:=
 callS S zrt [.sl Sl.nil,x0] h fun s1 h0=>
 K (.sl s1) h0
theorem QC (S:SatT) (K:KT) (x0:AVal) (h:H):cwp S tab zHn [] (za Tryz.f166) (kFun tab Tryz.f166.results.toList K) (fr0 Tryz.f166 [x0]) h=Wx S K x0 h:=by kernel_rfl
theorem zwg (x0:AVal) (h:H) (K:Sl→H→Prop) (hm:Wx (Sat Tryz.prog) (fun v h'=>∃r,v = .sl r∧K r h') x0 h):callS (Sat Tryz.prog) zrv [x0] h K:=by
 have:=Sat.ex tok mixed zHn Tryz.func166 (c:=za Tryz.f166) (by kernel_rfl) (zd Tryz.func166 (c:=za Tryz.f166) (by kernel_rfl) (by decide)) ((QC _ _ x0 h).mpr hm)
 obtain ⟨v,h2,h3,r,rfl,h4⟩:=this;exact ⟨r,h2,h3,h4⟩
def zMo:Nat→List Nat:=fun i=>[]
def zcR (S:SatT) (K:KT) (x0:Sl) (x1:Pt) (h:H):Prop:=
 st1 x1 (.sl x0) h fun h0=>
 K (.bool false) h0
theorem zcQ (S:SatT) (K:KT) (x0:Sl) (x1:Pt) (h:H):cwp S tab zMo [] (za Tryz.f94) (kFun tab Tryz.f94.results.toList K) (fr0 Tryz.f94 [.sl x0,.ptr x1]) h=zcR S K x0 x1 h:=by kernel_rfl
theorem zCl (x0:Sl) (x1:Pt) (h:H) (K:Bool→H→Prop) (hm:zcR (Sat Tryz.prog) (fun v h'=>∃r,v = .bool r∧K r h') x0 x1 h):callB (Sat Tryz.prog) zIG [.sl x0,.ptr x1] h K:=by
 have:=Sat.ex tok mixed zMo Tryz.func94 (c:=za Tryz.f94) (by kernel_rfl) (zd Tryz.func94 (c:=za Tryz.f94) (by kernel_rfl) (by decide)) ((zcQ _ _ x0 x1 h).mpr hm)
 obtain ⟨v,h2,h3,r,rfl,h4⟩:=this;exact ⟨r,h2,h3,h4⟩
end Go.Proofs.YtlcgclmobfdbcaaGreat.Cl
