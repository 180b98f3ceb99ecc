/- Own texts for this claim: Lib, Pri, Ref6, R12, Q12, P12, Rep, Tape, Bas, Spl, Mrk, Mrk2, B64, Key, Q10, Uri, Sgn, Sg8, D8, B6, B7, B8, Lw8, D64, Rn, Rt, Tc0, Tc1, Tc2, Tc3. -/
import Derived.Test.YtcohmieljbdlhaaGreatDoorMarkNoneCardP3
import Derived.Test.YtcohmieljbdlhaaGreatDoorMarkNoneCardP4
import Derived.Lib.Small
import Derived.Lib.Join
import Derived.Lib.ItoaNum
import Derived.Lib.IndexMore
import Derived.Lib.SplitLaws
set_option linter.all false
section
open Go Go.Sv Go.RowKit
namespace Go.Proofs
end Go.Proofs
end
section
open Go Go.Sv
namespace Go.Proofs.Tw
attribute [local irreducible] Wp FinQ resV Ent Pur Go.Sv.Fn Sat0
set_option maxRecDepth 100000
variable {G:Nat→Option (List Cell)} [Back G]
def strsF (l:List (List UInt8)):Nat→Nat→Cell:=fun i _ => .str (l.getD i [])
theorem strs_app {e:TypeId} {k:Nat} (l:List (List UInt8)) (x:List UInt8) (hk:k=l.length):BlkEqv (.row e 1 (k+1) (catF k (strsF l) (fun i j=>nthD [.str x] ((0+i)*1+j)))) (.row e 1 (k+1) (strsF (l++[x]))):=by
 refine BlkEqv.row_ext rfl fun i hi j hj => ?_
 subst hk
 unfold catF
 split
 ·rename_i h;simp only [strsF,List.getD,List.getElem?_append,h,if_true]
 ·obtain ⟨h1,rfl⟩:i=l.length∧j=0:=by omega
  subst h1
  rw [Nat.sub_self]
  simp only [strsF,List.getD,List.getElem?_append,Nat.lt_irrefl,if_false,Nat.sub_self]
  rfl
end Go.Proofs.Tw
end
section
open Go Go.Sv
namespace Go.Proofs.Tw
attribute [local irreducible] Wp FinQ resV Ent Pur Go.Sv.Fn Sat0
set_option maxRecDepth 100000
variable {G:Nat→Option (List Cell)} [Back G]
theorem wrap64 {n:Int} (h1 : -9223372036854775808≤n) (h2:n≤9223372036854775807):IntKind.i64.wrap n=n:=by
 simp [IntKind.wrap,IntKind.signed,IntKind.bits]
 omega
end Go.Proofs.Tw
end
section
open Go Go.Sv
namespace Go.Proofs.Tw
attribute [local irreducible] Wp FinQ resV Ent Pur Go.Sv.Fn Sat0
set_option maxRecDepth 100000
variable {G:Nat→Option (List Cell)} [Back G]
end Go.Proofs.Tw
end
section
open Go Go.Sv
namespace Go.Proofs.Tw
attribute [local irreducible] Wp FinQ resV Ent Pur Go.Sv.Fn Sat0
set_option maxRecDepth 100000
variable {G:Nat→Option (List Cell)} [Back G]
end Go.Proofs.Tw
end
section
open Go Go.Sv
namespace Go.Proofs.Tw
attribute [local irreducible] Wp FinQ resV Ent Pur Go.Sv.Fn Sat0
set_option maxRecDepth 100000
variable {G:Nat→Option (List Cell)} [Back G]
end Go.Proofs.Tw
end
section
open Go Go.Sv
namespace Go.Proofs.Tw
attribute [local irreducible] Wp FinQ resV Ent Pur Go.Sv.Fn Sat0
set_option maxRecDepth 100000
variable {G:Nat→Option (List Cell)} [Back G]
end Go.Proofs.Tw
end
section
open Go Go.Sv Go.RowKit
namespace Go.Proofs.Tw
attribute [local irreducible] Wp FinQ resV Ent Pur Go.Sv.Fn Sat0
set_option maxRecDepth 100000
set_option maxHeartbeats 4000000
variable {G:Nat→Option (List Cell)} [Back G]
def intsF (l:List Int):Nat→Nat→Cell:=fun i _ => .int .i64 (l.getD i 0)
def tapeB (l:List Int) (a:Nat):Blk := .box 26 [.sl 1 l.length (intsF l),.int .i64 (a:Int)]
def withT (at_ n:Int):Int:=if at_.tmod n<0 then at_.tmod n+n else at_.tmod n
theorem tmod_lo (a n:Int) (hn:0<n) : -n<a.tmod n:=by
 rcases Int.lt_or_le a 0 with h | h
 ·have:=Int.tmod_lt_of_pos (-a) hn
  rw [Int.neg_tmod] at this
  omega
 ·have:=Int.tmod_nonneg n h
  omega
theorem withT_rng (a n:Int) (hn:0<n):0≤withT a n∧withT a n<n:=by
 unfold withT
 have h1:=Int.tmod_lt_of_pos a hn
 have h2:=tmod_lo a n hn
 split<;>omega
theorem within1_ok (a n:Int) (hn:0<n) (hm:n≤9223372036854775807):Pur Tryz.prog G 101 [.c (.int .i64 a),.c (.int .i64 n)] [.c (.int .i64 (withT a n))]:=by
 refine zp Tryz.func101 ?_
 have h1:=Int.tmod_lt_of_pos a hn
 have h2:=tmod_lo a n hn
 refine zg [] [] [n=(0:Int)→False] ((show n=(0:Int)→False from oM)) ?_
 refine zc (decide (a.tmod n<(0:Int))) (fun h0 => ?_) (fun h0 => ?_)
 ·have g0:=of_decide_eq_true h0
  refine zg [] [] [IntKind.i64.min≤a.tmod n+n∧a.tmod n+n≤IntKind.i64.max] (i6) ?_
  exact zS [.c (.int .i64 (a.tmod n+n))] (by simp [withT, *];done)
 ·have g0:=of_decide_eq_false h0
  refine z0 [] [] ?_
  exact zS [.c (.int .i64 (a.tmod n))] (by simp [withT, *];done)
theorem more1_ok (l:List Int) (a:Nat):FnB Tryz.prog G 42 [tapeB l a] [.c (.ptr 0 0)] [.c (.bool (decide (a<l.length)))] [(0,tapeB l a)]:=by
 refine zf Tryz.func42 ?_
 refine z0 [] [] ?_
 refine Wp.ret' kR ?_
 exact FinQ.blkE (rs':=[V1.c (Cell.bool (decide ((↑a:Int)<(↑l.length:Int))))]) (hout':=[(0,tapeB l a)]) (by simp) [] kR kR kR kR kR trivial
def nextV (l:List Int) (a:Nat) (n:Int):Int:=cond (cond (!decide ((a:Int)<(l.length:Int))) true (decide (n<1))) 0 (withT (l.getD a 0) n)
def nextA (l:List Int) (a:Nat) (n:Int):Nat:=cond (cond (!decide ((a:Int)<(l.length:Int))) true (decide (n<1))) a (a+1)
theorem next_ok (l:List Int) (a:Nat) (n:Int) (hl:l.length≤9223372036854775807) (hm:n≤9223372036854775807):FnB Tryz.prog G 47 [tapeB l a] [.c (.ptr 0 0),.c (.int .i64 n)] [.c (.int .i64 (nextV l a n))] [(0,tapeB l (nextA l a n))]:=by
 refine zf Tryz.func47 ?_
 refine z0 [(1,{cs:=[(1,cb [0] (more1_ok l a))]})] [] ?_
 refine zc (bif !decide (a<l.length) then true else decide (n<(1:Int))) (fun h0 => ?_) (fun h0 => ?_)
 ·have g0:=h0
  simp at g0
  refine z0 [] [] ?_
  refine Wp.ret' kR ?_
  exact FinQ.blkE (rs':=[V1.c (Cell.int .i64 (0:Int))]) (hout':=[(0,Blk.box 26 [Cell.sl (1:Nat) l.length (intsF l),Cell.int .i64 (↑a:Int)])]) (by simp [nextV,tapeB,nextA,h0]) [] kR kR kR kR kR trivial
 ·have g0:=h0
  simp at g0
  refine zg [(4,{cs:=[(12,pc (within1_ok (l.getD a (0:Int)) n oM aS))],fm:=[(10,.c (.int .i64 (l.getD a 0)))]})] [] [inR .i64 ((a:Int)+1),inR .i64 ((a:Int)+1-1),(0:Int)≤(a:Int)+(1:Int)-(1:Int)∧(a:Int)+(1:Int)-(1:Int)<(l.length:Int),EqvD (.c (.int .i64 (l.getD ((a:Int)+(1:Int)-(1:Int)).toNat (0:Int)))) (.c (.int .i64 (l.getD a (0:Int))))] ⟨i6,i6,oM,(show EqvD (.c (.int .i64 (l.getD ((↑a:Int)+(1:Int)-(1:Int)).toNat (0:Int)))) (.c (.int .i64 (l.getD a (0:Int)))) from (by simp;exact fun _ _ _ h=>h))⟩ ?_
  refine Wp.ret' kR ?_
  exact FinQ.blkE (rs':=[V1.c (Cell.int .i64 (withT (l.getD a (0:Int)) n))]) (hout':=[(0,Blk.box 26 [Cell.sl (1:Nat) l.length (intsF l),Cell.int .i64 ((↑a:Int)+(1:Int))])]) (by simp [nextV,tapeB,nextA,h0]) [] kR kR kR kR kR trivial
theorem nextV_rng (l:List Int) (a:Nat) (n:Int) (hn:0<n):0≤nextV l a n∧nextV l a n<n:=by
 unfold nextV
 have:=withT_rng (l.getD a 0) n hn
 cases (cond (!decide ((a:Int)<(l.length:Int))) true (decide (n<1))) with
 | true=>show 0≤(0:Int)∧(0:Int)<n; omega
 | false=>exact this
theorem pick_ok (ss:List (List UInt8)) (l:List Int) (a:Nat) (hl:l.length≤9223372036854775807) (hs:ss.length<4611686018427387904):FnB Tryz.prog G 43 [tapeB l a] [.c (.ptr 0 0),.c (.sl 1 ss.length (strsF ss))] [.c (.str (ss.getD (nextV l a ss.length).toNat []))] [(0,tapeB l (nextA l a ss.length))]:=by
 refine zf Tryz.func43 ?_
 have hr:=fun h=>nextV_rng l a ss.length h
 refine z0 [] [] ?_
 refine zc ((↑ss.length:Int)==(0:Int)) (fun h0 => ?_) (fun h0 => ?_)
 ·have g0:=eq_of_beq h0
  refine z0 [] [] ?_
  refine Wp.ret' kR ?_
  exact FinQ.blkE (rs':=[V1.c (Cell.str [])]) (hout':=[(0,Blk.box 26 [Cell.sl (1:Nat) l.length (intsF l),Cell.int .i64 (↑a:Int)])]) (by simp_all [nextV,tapeB,nextA]) [] kR kR kR kR kR trivial
 ·have g0:=ne_of_beq_false h0
  refine zg [(3,{cs:=[(4,cb [0] (next_ok l a (ss.length:Int) aS oM))]})] [] [(0:Int)≤nextV l a (ss.length:Int)∧nextV l a (ss.length:Int)<(ss.length:Int)] ((show (0:Int)≤nextV l a (↑ss.length:Int)∧nextV l a (↑ss.length:Int)<(↑ss.length:Int) from oM)) ?_
  exact zb []
theorem byte_all (p:UInt8→Bool) (h:(List.range 256).all (fun n=>p (UInt8.ofNat n))=true) (c:UInt8):p c=true:=by
 have:=List.all_eq_true.1 h c.toNat (List.mem_range.2 (UInt8.toNat_lt c))
 rwa [UInt8.ofNat_toNat] at this
theorem by_all (p q:UInt8→Bool) (h:(List.range 256).all (fun n=>p (UInt8.ofNat n)==q (UInt8.ofNat n))=true):∀ c:UInt8,[V1.c (Cell.bool (p c))]=[V1.c (Cell.bool (q c))]:=by
 intro c
 have h':p c=q c:=eq_of_beq (byte_all (fun c=>p c==q c) h c)
 rw [h']
def greatB (c:UInt8):Bool:=65≤c&&c≤90
def smallB (c:UInt8):Bool:=97≤c&&c≤122
def digitB (c:UInt8):Bool:=48≤c&&c≤57
theorem great_ok (c:UInt8):Pur Tryz.prog G 146 [.c (.int .u8 (c.toNat:Int))] [.c (.bool (greatB c))]:=by
 refine zp Tryz.func146 ?_
 refine z0 [] [] ?_
 exact zS [.c (.bool (bif decide ((↑c.toNat:Int)≥(65:Int)) then decide ((↑c.toNat:Int)≤(90:Int)) else false))] (by revert c;refine by_all _ _ ?_;kernel_rfl)
theorem small_ok (c:UInt8):Pur Tryz.prog G 147 [.c (.int .u8 (c.toNat:Int))] [.c (.bool (smallB c))]:=by
 refine zp Tryz.func147 ?_
 refine z0 [] [] ?_
 exact zS [.c (.bool (bif decide ((↑c.toNat:Int)≥(97:Int)) then decide ((↑c.toNat:Int)≤(122:Int)) else false))] (by revert c;refine by_all _ _ ?_;kernel_rfl)
theorem digit_ok (c:UInt8):Pur Tryz.prog G 109 [.c (.int .u8 (c.toNat:Int))] [.c (.bool (digitB c))]:=by
 refine zp Tryz.func109 ?_
 refine z0 [] [] ?_
 exact zS [.c (.bool (bif decide ((↑c.toNat:Int)≥(48:Int)) then decide ((↑c.toNat:Int)≤(57:Int)) else false))] (by revert c;refine by_all _ _ ?_;kernel_rfl)
theorem lib_IndexByte {G:Nat→Option (List Cell)} [Back G] (s:List UInt8) (c:UInt8):Pur Tryz.prog G 189 [.c (.str s),.c (.int .u8 (c.toNat:Int))] [.c (.int .i64 (Lib.indexByte s c))]:=by
 refine Pur.of_below rfl ?_
 intro D ρ w vs h1 _ _ _
 obtain ⟨u,v,rfl,hu,hv⟩:=h1.two
 have hu:u = .string ⟨s.toArray⟩:=hu
 have hv:v = .int .u8 (c.toNat:Int):=hv
 subst hu hv
 refine (Go.Proofs.Tryz.strings_IndexByte ⟨s.toArray⟩ (c.toNat:Int) w).mono ?_
 rintro e w' ⟨rfl,rfl⟩
 exact ⟨_,rfl,by simp [ResDen,DenV,Den],BelowD.refl _ _⟩
theorem dropS (l:List UInt8) (k:Nat) (h:k<l.length):l.drop k=l.getD k 0::l.drop (k+1):=by
 rw [List.getD_eq_getElem?_getD,List.getElem?_eq_getElem h];exact List.drop_eq_getElem_cons h
theorem occ_at (s sep:List UInt8) (k:Nat) (hk:k+sep.length≤s.length):Lib.occAt s sep k=(List.drop k (List.take (k+sep.length) s)==sep):=by
 rw [Lib.occAt_iff_take s sep k hk,List.take_drop]
theorem size_lt (s:List UInt8):(⟨s.toArray⟩:ByteArray).size=s.length:=size_mk s
theorem glob_one {D:Dat} {w:World} {g:Nat} {x:Cell} (hG:G g=some [x]) (k1:GlobOk G D) (k3:Agree D w):∃ u,w.cell? ⟨g,0,none⟩=some u∧Den D rho0 x u:=by
 obtain ⟨u,hu,hd⟩:=k1 g _ hG 0 x rfl
 exact ⟨u,k3 _ _ _ hu,hd⟩
theorem lib_Split {m:Int} (hG:G 1=some [.int .i64 m]) (s p:List UInt8) (hl:s.length<4294967281) (hp:1≤p.length):Pur Tryz.prog G 145 [.c (.str s),.c (.str p)] [.c (.sl 1 (Lib.split s p).length (strsF (Lib.split s p)))]:=by
 have hsz:(Lib.splitB ⟨p.toArray⟩ 0 (Lib.countB ⟨s.toArray⟩ ⟨p.toArray⟩) ⟨s.toArray⟩).length=Lib.countB ⟨s.toArray⟩ ⟨p.toArray⟩+1:=Lib.splitB_all _ (by rw [size_lt];exact hp) 0 _ _ rfl
 have hdat:(Lib.splitB ⟨p.toArray⟩ 0 (Lib.countB ⟨s.toArray⟩ ⟨p.toArray⟩) ⟨s.toArray⟩).map (·.data.toList)=Lib.split s p:=by rw [Lib.splitB_data];rfl
 have hlen:(Lib.split s p).length=Lib.countB ⟨s.toArray⟩ ⟨p.toArray⟩+1:=by rw [← hdat,List.length_map,hsz]
 have hcl:=Lib.countB_le ⟨p.toArray⟩ (by rw [size_lt];exact hp) s.length ⟨s.toArray⟩ (by rw [size_lt];exact Nat.le_refl _)
 rw [size_lt] at hcl
 refine Pur.of_alloc (by rw [hlen];unfold maxLen;omega) ?_
 intro D ρ w vs h1 k1 _ k3
 obtain ⟨u,v,rfl,hu,hv⟩:=h1.two
 have hu:u = .string ⟨s.toArray⟩:=hu
 have hv:v = .string ⟨p.toArray⟩:=hv
 subst hu hv
 obtain ⟨x,hx,hd⟩:=glob_one hG k1 k3
 have hd:x = .int .i64 m:=hd
 subst hd
 refine (Go.Proofs.Tryz.strings_Split ⟨s.toArray⟩ ⟨p.toArray⟩ m w (by rw [size_lt];exact hl) hx (by rw [size_lt];exact hp)).mono ?_
 rintro e w' ⟨rfl,rfl⟩
 refine ⟨_,_,by rw [hlen],rfl,by simp [hsz,hlen],fun i hi => ?_⟩
 have hi':i<(Lib.splitB ⟨p.toArray⟩ 0 (Lib.countB ⟨s.toArray⟩ ⟨p.toArray⟩) ⟨s.toArray⟩).length:=by rw [hsz,← hlen];exact hi
 refine ⟨.string (Lib.splitB ⟨p.toArray⟩ 0 (Lib.countB ⟨s.toArray⟩ ⟨p.toArray⟩) ⟨s.toArray⟩)[i],by simp [hi'],fun D => ?_⟩
 have:(Lib.split s p).getD i []=(Lib.splitB ⟨p.toArray⟩ 0 (Lib.countB ⟨s.toArray⟩ ⟨p.toArray⟩) ⟨s.toArray⟩)[i].data.toList:=by
  rw [← hdat];simp [List.getD,hi']
 show _=Value.string ⟨((Lib.split s p).getD i []).toArray⟩
 rw [this]


def sgs:List UInt8:=[65,66,67,68,69,70,71,72,73,74,75,76,77,78,79,80,81,82,83,84,85,86,87,88,89,90,97,98,99,100,101,102,103,104,105,106,107,108,109,110,111,112,113,114,115,116,117,118,119,120,121,122,48,49,50,51,52,53,54,55,56,57,45,95]
def v3 (b:List UInt8) (i:Nat):Nat→Int
 | 0=>0
 | k+1=>if i+k<b.length then v3 b i k*256+((b.getD (i+k) 0).toNat:Int) else v3 b i k*256
def n3 (b:List UInt8) (i:Nat):Nat→Nat
 | 0=>0
 | k+1=>if i+k<b.length then n3 b i k+1 else n3 b i k
theorem n3_le (b:List UInt8) (i:Nat):∀ k,n3 b i k≤k
 | 0=>Nat.le_refl _
 | k+1=>by have:=n3_le b i k; unfold n3; split<;>omega
theorem v3_lt (b:List UInt8) (i:Nat):∀ k,k≤3→0≤v3 b i k∧v3 b i k<256^k
 | 0,_=>⟨Int.le_refl 0,Int.zero_lt_one⟩
 | k+1,h=>by
  have:=v3_lt b i k oM
  have hc:=UInt8.toNat_lt (b.getD (i+k) 0)
  have hp:(256:Int)^(k+1)=256^k*256:=Int.pow_succ _ _
  unfold v3;rw [hp];split<;>omega
def encO (b:List UInt8):Nat×Option (Nat×List UInt8)→St
 | (g,none)=>⟨[(0,.v (.c (.sl 1 b.length (bytesF b)))),(3,.v (.c .nilsl)),(4,.v (.c (.int .i64 ((3*g:Nat):Int))))],[],48⟩
 | (g,some (n,l))=>⟨[(0,.v (.c (.sl 1 b.length (bytesF b)))),(3,.v (.c (.row 1 40 0 n))),(4,.v (.c (.int .i64 ((3*g:Nat):Int))))],[(40,.row 5 1 n (bytesF l))],48⟩
def enc1 (b:List UInt8) (g:Nat) (o:Option (Nat×List UInt8)) (x:Nat×Int×Nat):St:=match o with
 | none=>⟨[(0,.v (.c (.sl 1 b.length (bytesF b)))),(3,.v (.c .nilsl)),(4,.v (.c (.int .i64 ((3*g:Nat):Int)))),(5,.v (.c (.int .i64 x.2.1))),(6,.v (.c (.int .i64 (x.2.2:Int)))),(7,.v (.c (.int .i64 (x.1:Int))))],[],400⟩
 | some (n,l)=>⟨[(0,.v (.c (.sl 1 b.length (bytesF b)))),(3,.v (.c (.row 1 40 0 n))),(4,.v (.c (.int .i64 ((3*g:Nat):Int)))),(5,.v (.c (.int .i64 x.2.1))),(6,.v (.c (.int .i64 (x.2.2:Int)))),(7,.v (.c (.int .i64 (x.1:Int))))],[(40,.row 5 1 n (bytesF l))],400⟩
def enc2 (b:List UInt8) (g:Nat) (v:Int) (m:Nat):Nat×Option (Nat×List UInt8)→St
 | (k,none)=>⟨[(0,.v (.c (.sl 1 b.length (bytesF b)))),(3,.v (.c .nilsl)),(4,.v (.c (.int .i64 ((3*g:Nat):Int)))),(5,.v (.c (.int .i64 v))),(6,.v (.c (.int .i64 (m:Int)))),(8,.v (.c (.int .i64 (k:Int))))],[],800⟩
 | (k,some (n,l))=>⟨[(0,.v (.c (.sl 1 b.length (bytesF b)))),(3,.v (.c (.row 1 40 0 n))),(4,.v (.c (.int .i64 ((3*g:Nat):Int)))),(5,.v (.c (.int .i64 v))),(6,.v (.c (.int .i64 (m:Int)))),(8,.v (.c (.int .i64 (k:Int))))],[(40,.row 5 1 n (bytesF l))],800⟩
def six (v:Int) (k:Nat):Int:=(v.fdiv (2^(18-6*k)))%64
def sgn6 (v:Int) (k:Nat):UInt8:=sgs.getD (six v k).toNat 0
def sgs6 (v:Int):Nat→List UInt8
 | 0=>[]
 | k+1=>sgs6 v k++[sgn6 v k]
def grp (b:List UInt8) (g:Nat):List UInt8:=sgs6 (v3 b (3*g) 3) (n3 b (3*g) 3+1)
def encG (b:List UInt8):Nat→List UInt8
 | 0=>[]
 | g+1=>encG b g++grp b g
def enc8 (b:List UInt8):List UInt8:=encG b ((b.length+2) / 3)
def encOF (b:List UInt8):Nat×Option (Nat×List UInt8)→Prop
 | (g,none)=>g=0
 | (g,some (n,l))=>0<g∧3*g<b.length+3∧l=encG b g∧n=l.length∧n≤4*g
def enc1F (b:List UInt8) (g:Nat) (x:Nat×Int×Nat):Prop:=x.1≤3∧x.2.1=v3 b (3*g) x.1∧x.2.2=n3 b (3*g) x.1
def enc2F (b:List UInt8) (g:Nat) (v:Int) (m:Nat):Nat×Option (Nat×List UInt8)→Prop
 | (k,none)=>k=0∧g=0
 | (k,some (n,l))=>k≤m+1∧l=encG b g++sgs6 v k∧n=l.length∧n+(m+1-k)≤4*(g+1)
theorem v3_16 (b:List UInt8) (i k:Nat) (h:k≤3):0≤v3 b i k∧v3 b i k<16777216:=by
 have:=v3_lt b i k h
 have:k=0∨k=1∨k=2∨k=3:=by omega
 rcases this with rfl | rfl | rfl | rfl<;>simp at *<;>omega
theorem wrap_b (c:UInt8):IntKind.i64.wrap ((c.toNat:Nat):Int)=((c.toNat:Nat):Int):=eq_of_beq (byte_all (fun c=>IntKind.i64.wrap ((c.toNat:Nat):Int)==((c.toNat:Nat):Int)) kR c)
theorem v3_in (b:List UInt8) (i k:Nat) (h:i+k<b.length):v3 b i k*256+IntKind.i64.wrap ((b.getD ((i:Int)+(k:Int)).toNat 0).toNat:Int)=v3 b i (k+1):=by
 have e:((i:Int)+(k:Int)).toNat=i+k:=by omega
 rw [wrap_b,e,v3,if_pos h]
theorem bits63 (x:Int) (h:0≤x∧x<2^62):bitsI .and .i64 x 63=x%64:=by
 obtain ⟨n,rfl⟩:=Int.eq_ofNat_of_zero_le h.1
 have e:(BitVec.ofInt 64 (n:Int) &&& BitVec.ofInt 64 63).toNat=n%64:=by
  rw [BitVec.toNat_and]
  have e1:(BitVec.ofInt 64 (n:Int)).toNat=n:=by
   rw [BitVec.toNat_ofInt];omega
  have e2:(BitVec.ofInt 64 63).toNat=2^6-1:=rfl
  rw [e1,e2,Nat.and_two_pow_sub_one_eq_mod]
 show IntKind.i64.wrap ((BitVec.ofInt 64 (n:Int) &&& BitVec.ofInt 64 63).toNat)=_
 rw [e]
 simp [IntKind.wrap,IntKind.bits,IntKind.signed]
 omega
theorem six_is (v:Int) (k:Nat) (hk:k≤3) (hv:0≤v∧v<16777216):bitsI .and .i64 (v.fdiv (2^min (18-6*(k:Int)).toNat IntKind.i64.bits)) 63=six v k:=by
 have e:min (18-6*(k:Int)).toNat IntKind.i64.bits=18-6*k:=by show min _ 64=_;omega
 rw [e,bits63];· rfl
 have h1:(0:Int)≤2^(18-6*k):=Int.le_of_lt (Int.pow_pos dC)
 rw [Int.fdiv_eq_ediv_of_nonneg _ h1]
 exact ⟨Int.ediv_nonneg hv.1 h1,Int.lt_of_le_of_lt (Int.ediv_le_self _ hv.1) oM⟩
theorem row_new (x:Int) (c:UInt8) (hx:x=(c.toNat:Int)):BlkEqv (.row 5 1 1 (catF 0 (fun _ _ => .nilif) (fun i j=>nthD [.int .u8 x] ((0+i)*1+j)))) (.row 5 1 1 (bytesF [c])):=by
 subst hx
 refine BlkEqv.row_ext rfl fun i hi j hj => ?_
 obtain ⟨rfl,rfl⟩:i=0∧j=0:=by omega
 rfl
theorem enc8_ok (b:List UInt8) (hl:b.length≤30000000000000):Pur Tryz.prog G 41 [.c (.sl 1 b.length (bytesF b))] [.c (.str (enc8 b))]:=by
 refine zp Tryz.func41 ?_
 refine z0 [] [] ?_
 refine zl (encO b) (encOF b) (fun x=>b.length+3-3*x.1) (0,none) rfl ?_
 rintro ⟨g,_ | ⟨n,l⟩⟩ L hf again0
 ·rcases hf with rfl
  rcases Nat.lt_or_ge (3*0) b.length with hlt | hge
  ·have ht:decide ((↑(3*0):Int)<(↑b.length:Int))=true:=by simp;omega
   refine zg [] [true] [decide ((↑(3*0):Int)<(b.length:Int))=true] ht ?_
   refine zl (enc1 b 0 none) (enc1F b 0) (fun x=>3-x.1) (0,0,0) ⟨Nat.zero_le _,rfl,rfl⟩ ?_
   rintro ⟨k,v,m⟩ L1 ⟨hk,hv,hm⟩ again
   have hm3:=n3_le b (3*0) k
   have hv3:=v3_16 b (3*0) k hk
   have hv4:=v3_16 b (3*0) (k+1)
   have hin:=v3_in b (3*0) k
   simp only [] at hk hv hm
   rw [← hv] at hv3 hin
   rw [← hm] at hm3
   rcases Nat.lt_or_ge k 3 with hk3 | hk3
   ·have h3:decide ((k:Int)<3)=true:=by simp;omega
    have hv5:=hv4 hk3
    clear hv4 ht
    have r1:inR .i64 (v*256):=i6
    have r2:inR .i64 ((m:Int)+1):=i6
    rcases Nat.lt_or_ge (3*0+k) b.length with hc | hc
    ·have hin:=hin hc
     rw [← hin] at hv5
     have r3:inR .i64 (v*256+IntKind.i64.wrap ((b.getD (((3*0:Nat):Int)+(k:Int)).toNat 0).toNat:Int)):=i6
     have hnx:enc1F b 0 (k+1,v*256+IntKind.i64.wrap ((b.getD (((3*0:Nat):Int)+(k:Int)).toNat 0).toNat:Int),m+1):=⟨hk3,hin,by show m+1=_;rw [hm,n3,if_pos hc]⟩
     have hc2:decide (((3*0:Nat):Int)+(k:Int)<(b.length:Int))=true:=by simp;omega
     refine zg [] [true,true] [decide ((k:Int)<3)=true,inR .i64 (v*256),inR .i64 ((↑((3:Nat)*(0:Nat)):Int)+(k:Int)),decide ((↑((3:Nat)*(0:Nat)):Int)+(k:Int)<(b.length:Int))=true,inR .i64 ((↑((3:Nat)*(0:Nat)):Int)+(k:Int)),(0:Int)≤(↑((3:Nat)*(0:Nat)):Int)+(k:Int)∧(↑((3:Nat)*(0:Nat)):Int)+(k:Int)<(b.length:Int),inR .i64 (v*(256:Int)+IntKind.i64.wrap (↑(b.getD ((↑((3:Nat)*(0:Nat)):Int)+(k:Int)).toNat (0:UInt8)).toNat:Int)),inR .i64 ((m:Int)+1),inR .i64 ((k:Int)+1)] ⟨aS,i6,i6,aS,i6,oM,i6,i6,i6⟩ ?_
     exact za [] (again _ (k+1,v*256+IntKind.i64.wrap ((b.getD (((3*0:Nat):Int)+(k:Int)).toNat 0).toNat:Int),m+1) aS oM)
    ·clear hin
     have hnx:enc1F b 0 (k+1,v*256,m):=⟨hk3,by show v*256=_;rw [hv,v3,if_neg oM],by show m=_;rw [hm,n3,if_neg oM]⟩
     have hc2:decide (((3*0:Nat):Int)+(k:Int)<(b.length:Int))=false:=by simp;omega
     refine zg [] [true,false] [decide ((k:Int)<3)=true,inR .i64 (v*256),inR .i64 ((↑((3:Nat)*(0:Nat)):Int)+(k:Int)),decide ((↑((3:Nat)*(0:Nat)):Int)+(k:Int)<(b.length:Int))=false,inR .i64 ((k:Int)+1)] ⟨aS,i6,i6,aS,i6⟩ ?_
     exact za [] (again _ (k+1,v*256,m) aS oM)
   ·obtain rfl:k=3:=by omega
    have h3:decide ((↑(3:Nat):Int)<3)=false:=rfl
    refine zg [] [false] [decide ((↑(3:Nat):Int)<(3:Int))=false] rfl ?_
    refine zl (enc2 b 0 v m) (enc2F b 0 v m) (fun x=>m+1-x.1) (0,none) ⟨rfl,rfl⟩ ?_
    clear again
    rintro ⟨k,_ | ⟨n,l⟩⟩ L2 hf again
    ·obtain ⟨rfl,h00⟩:=hf
     have h3:decide ((↑(0:Nat):Int)≤(m:Int))=true:=by simp
     have hx:=eqvD_of (congrArg (fun x=>V1.c (.int .i64 x)) (six_is v 0 dC hv3))
     have hs:0≤six v 0∧six v 0<((64:Nat):Int):=by unfold six;omega
     have e1:=row_new ((([65,66,67,68,69,70,71,72,73,74,75,76,77,78,79,80,81,82,83,84,85,86,87,88,89,90,97,98,99,100,101,102,103,104,105,106,107,108,109,110,111,112,113,114,115,116,117,118,119,120,121,122,48,49,50,51,52,53,54,55,56,57,45,95]:List UInt8).getD (six v 0).toNat 0).toNat:Int) (sgn6 v 0) rfl
     have hnx:enc2F b 0 v m (1,some (1,[sgn6 v 0])):=⟨by omega,by first | rfl | omega,rfl,by omega⟩
     refine zg [(15,{fm:=[(6,.c (.int .i64 (six v 0)))],bs:=[(9,.row 5 1 1 (bytesF [sgn6 v 0]))]})] [true] [decide ((↑(0:Nat):Int)≤(m:Int))=true,inR .i64 ((6:Int)*(↑(0:Nat):Int)),inR .i64 ((18:Int)-(6:Int)*(↑(0:Nat):Int)),(0:Int)≤(18:Int)-(6:Int)*(↑(0:Nat):Int),EqvI (.c (.int .i64 (bitsI .and .i64 (v.fdiv ((2:Int)^(18:Nat))) (63:Int)))) (.c (.int .i64 (six v (0:Nat)))),EqvD (.c (.int .i64 (bitsI .and .i64 (v.fdiv ((2:Int)^(18:Nat))) (63:Int)))) (.c (.int .i64 (six v (0:Nat)))),(0:Int)≤six v (0:Nat)∧six v (0:Nat)<(↑(64:Nat):Int),1≤140737488355328,BlkEqv (.row 5 (1:Nat) (1:Nat) (catF (0:Nat) (fun (x x_1:Nat) => .nilif) fun i j=>nthD [.int .u8 (↑([(65:UInt8),66,67,68,69,70,71,72,73,74,75,76,77,78,79,80,81,82,83,84,85,86,87,88,89,90,97,98,99,100,101,102,103,104,105,106,107,108,109,110,111,112,113,114,115,116,117,118,119,120,121,122,48,49,50,51,52,53,54,55,56,57,45,95].getD (six v (0:Nat)).toNat (0:UInt8)).toNat:Int)] (((0:Nat)+i)*(1:Nat)+j))) (.row 5 (1:Nat) (1:Nat) (bytesF [sgn6 v (0:Nat)])),0+1≤1,inR .i64 ((↑(0:Nat):Int)+(1:Int))] ⟨rfl,i6,i6,oM,fun _ _=>trivial,aS,oM,oM,aS,oM,i6⟩ ?_
     exact za [(40,992)] (again _ (1,some (1,[sgn6 v 0])) aS oM)
    ·obtain ⟨hk,hl1,hn,hb⟩:=hf
     rcases Nat.lt_or_ge m k with hk3 | hk3
     ·obtain rfl:k=m+1:=by omega
      have again:=again0
      have hv':=hv
      have hm':=hm
      have hnx:encOF b (0+1,some (n,l)):=⟨by omega,by omega,by rw [hl1,hv',hm'];rfl,hn,by omega⟩
      clear hv hm hv' hm' hl1 hin
      refine zg [] [false] [decide ((↑(m+(1:Nat)):Int)≤(m:Int))=false,inR .i64 ((↑((3:Nat)*(0:Nat)):Int)+(3:Int))] ⟨sO,i6⟩ ?_
      exact za [] (again _ (0+1,some (n,l)) aS oM)
     ·have hx:=eqvD_of (congrArg (fun x=>V1.c (.int .i64 x)) (six_is v k oM hv3))
      have hs:0≤six v k∧six v k<((64:Nat):Int):=by unfold six;omega
      have e1:BlkEqv (.row 5 1 (n+1) (catF n (bytesF l) (fun i j=>nthD [.int .u8 ((([65,66,67,68,69,70,71,72,73,74,75,76,77,78,79,80,81,82,83,84,85,86,87,88,89,90,97,98,99,100,101,102,103,104,105,106,107,108,109,110,111,112,113,114,115,116,117,118,119,120,121,122,48,49,50,51,52,53,54,55,56,57,45,95]:List UInt8).getD (six v k).toNat 0).toNat:Int)] ((0+i)*1+j)))) (.row 5 1 (n+1) (bytesF (l++[sgn6 v k]))):=bytes_app l [sgn6 v k] hn
      have hnx:enc2F b 0 v m (k+1,some (n+1,l++[sgn6 v k])):=⟨by omega,by rw [hl1,List.append_assoc];rfl,by simp [hn],by omega⟩
      clear hl1 hin
      refine zg [(15,{fm:=[(6,.c (.int .i64 (six v k)))],bs:=[(9,.row 5 1 (n+1) (bytesF (l++[sgn6 v k])))]})] [true] [decide ((k:Int)≤(m:Int))=true,inR .i64 (6*(k:Int)),inR .i64 (18-6*(k:Int)),(0:Int)≤(18:Int)-(6:Int)*(k:Int),EqvI (.c (.int .i64 (bitsI .and .i64 (v.fdiv ((2:Int)^min ((18:Int)-(6:Int)*(k:Int)).toNat IntKind.i64.bits)) (63:Int)))) (.c (.int .i64 (six v k))),EqvD (.c (.int .i64 (bitsI .and .i64 (v.fdiv ((2:Int)^min ((18:Int)-(6:Int)*(k:Int)).toNat IntKind.i64.bits)) (63:Int)))) (.c (.int .i64 (six v k))),(0:Int)≤six v k∧six v k<(↑(64:Nat):Int),(n+1)*1≤140737488355328,BlkEqv (.row 5 (1:Nat) (n+(1:Nat)) (catF n (bytesF l) fun i j=>nthD [.int .u8 (↑([(65:UInt8),66,67,68,69,70,71,72,73,74,75,76,77,78,79,80,81,82,83,84,85,86,87,88,89,90,97,98,99,100,101,102,103,104,105,106,107,108,109,110,111,112,113,114,115,116,117,118,119,120,121,122,48,49,50,51,52,53,54,55,56,57,45,95].getD (six v k).toNat (0:UInt8)).toNat:Int)] (((0:Nat)+i)*(1:Nat)+j))) (.row 5 (1:Nat) (n+(1:Nat)) (bytesF (l++[sgn6 v k]))),n≤n,0+1≤1,inR .i64 ((k:Int)+1)] ⟨sO,i6,i6,oM,fun _ _=>trivial,aS,oM,oM,aS,oM,oM,i6⟩ ?_
      exact za [(40,992)] (again _ (k+1,some (n+1,l++[sgn6 v k])) aS oM)
  ·clear again0
   refine zg [] [false] [decide ((↑((3:Nat)*(0:Nat)):Int)<(b.length:Int))=false] (show decide ((↑((3:Nat)*(0:Nat)):Int)<(↑b.length:Int))=false from (by simp_all<;>omega)) ?_
   exact zS [.c (.str [])] (by rw [show b=[] from List.eq_nil_of_length_eq_zero oM];rfl)
 ·rcases hf with ⟨hg,hgl,hl0,hn0,hn1⟩
  rcases Nat.lt_or_ge (3*g) b.length with hlt | hge
  ·have ht:decide ((↑(3*g):Int)<(↑b.length:Int))=true:=by simp;omega
   refine zg [] [true] [decide ((↑(3*g):Int)<(b.length:Int))=true] ht ?_
   refine zl (enc1 b g (some (n,l))) (enc1F b g) (fun x=>3-x.1) (0,0,0) ⟨Nat.zero_le _,rfl,rfl⟩ ?_ [(40,40)]
   rintro ⟨k,v,m⟩ L1 ⟨hk,hv,hm⟩ again
   have hm3:=n3_le b (3*g) k
   have hv3:=v3_16 b (3*g) k hk
   have hv4:=v3_16 b (3*g) (k+1)
   have hin:=v3_in b (3*g) k
   simp only [] at hk hv hm
   rw [← hv] at hv3 hin
   rw [← hm] at hm3
   rcases Nat.lt_or_ge k 3 with hk3 | hk3
   ·have h3:decide ((k:Int)<3)=true:=by simp;omega
    have hv5:=hv4 hk3
    clear hv4 ht
    have r1:inR .i64 (v*256):=i6
    have r2:inR .i64 ((m:Int)+1):=i6
    rcases Nat.lt_or_ge (3*g+k) b.length with hc | hc
    ·have hin:=hin hc
     rw [← hin] at hv5
     have r3:inR .i64 (v*256+IntKind.i64.wrap ((b.getD (((3*g:Nat):Int)+(k:Int)).toNat 0).toNat:Int)):=i6
     have hnx:enc1F b g (k+1,v*256+IntKind.i64.wrap ((b.getD (((3*g:Nat):Int)+(k:Int)).toNat 0).toNat:Int),m+1):=⟨hk3,hin,by show m+1=_;rw [hm,n3,if_pos hc]⟩
     have hc2:decide (((3*g:Nat):Int)+(k:Int)<(b.length:Int))=true:=by simp;omega
     refine zg [] [true,true] [decide ((k:Int)<3)=true,inR .i64 (v*256),inR .i64 ((↑((3:Nat)*g):Int)+(k:Int)),decide ((↑((3:Nat)*g):Int)+(k:Int)<(b.length:Int))=true,inR .i64 ((↑((3:Nat)*g):Int)+(k:Int)),(0:Int)≤(↑((3:Nat)*g):Int)+(k:Int)∧(↑((3:Nat)*g):Int)+(k:Int)<(b.length:Int),inR .i64 (v*(256:Int)+IntKind.i64.wrap (↑(b.getD ((↑((3:Nat)*g):Int)+(k:Int)).toNat (0:UInt8)).toNat:Int)),inR .i64 ((m:Int)+1),inR .i64 ((k:Int)+1)] ⟨aS,i6,i6,aS,i6,oM,i6,i6,i6⟩ ?_
     exact za [] (again _ (k+1,v*256+IntKind.i64.wrap ((b.getD (((3*g:Nat):Int)+(k:Int)).toNat 0).toNat:Int),m+1) aS oM)
    ·clear hin
     have hnx:enc1F b g (k+1,v*256,m):=⟨hk3,by show v*256=_;rw [hv,v3,if_neg oM],by show m=_;rw [hm,n3,if_neg oM]⟩
     have hc2:decide (((3*g:Nat):Int)+(k:Int)<(b.length:Int))=false:=by simp;omega
     refine zg [] [true,false] [decide ((k:Int)<3)=true,inR .i64 (v*256),inR .i64 ((↑((3:Nat)*g):Int)+(k:Int)),decide ((↑((3:Nat)*g):Int)+(k:Int)<(b.length:Int))=false,inR .i64 ((k:Int)+1)] ⟨aS,i6,i6,aS,i6⟩ ?_
     exact za [] (again _ (k+1,v*256,m) aS oM)
   ·obtain rfl:k=3:=by omega
    have h3:decide ((↑(3:Nat):Int)<3)=false:=rfl
    refine zg [] [false] [decide ((↑(3:Nat):Int)<(3:Int))=false] rfl ?_
    refine zl (enc2 b g v m) (enc2F b g v m) (fun x=>m+1-x.1) (0,some (n,l)) ⟨Nat.zero_le _,hl0.trans (List.append_nil _).symm,hn0,(by have:=n3_le b (3*g) 3;omega)⟩ ?_ [(40,40)]
    clear again
    rintro ⟨k,_ | ⟨n,l⟩⟩ L2 hf again
    ·obtain ⟨rfl,h00⟩:=hf
     have h3:decide ((↑(0:Nat):Int)≤(m:Int))=true:=by simp
     have hx:=eqvD_of (congrArg (fun x=>V1.c (.int .i64 x)) (six_is v 0 dC hv3))
     have hs:0≤six v 0∧six v 0<((64:Nat):Int):=by unfold six;omega
     have e1:=row_new ((([65,66,67,68,69,70,71,72,73,74,75,76,77,78,79,80,81,82,83,84,85,86,87,88,89,90,97,98,99,100,101,102,103,104,105,106,107,108,109,110,111,112,113,114,115,116,117,118,119,120,121,122,48,49,50,51,52,53,54,55,56,57,45,95]:List UInt8).getD (six v 0).toNat 0).toNat:Int) (sgn6 v 0) rfl
     have hnx:enc2F b g v m (1,some (1,[sgn6 v 0])):=⟨by omega,by first | rfl | omega,rfl,by omega⟩
     refine zg [(15,{fm:=[(6,.c (.int .i64 (six v 0)))],bs:=[(9,.row 5 1 1 (bytesF [sgn6 v 0]))]})] [true] [decide ((↑(0:Nat):Int)≤(m:Int))=true,inR .i64 ((6:Int)*(↑(0:Nat):Int)),inR .i64 ((18:Int)-(6:Int)*(↑(0:Nat):Int)),(0:Int)≤(18:Int)-(6:Int)*(↑(0:Nat):Int),EqvI (.c (.int .i64 (bitsI .and .i64 (v.fdiv ((2:Int)^(18:Nat))) (63:Int)))) (.c (.int .i64 (six v (0:Nat)))),EqvD (.c (.int .i64 (bitsI .and .i64 (v.fdiv ((2:Int)^(18:Nat))) (63:Int)))) (.c (.int .i64 (six v (0:Nat)))),(0:Int)≤six v (0:Nat)∧six v (0:Nat)<(↑(64:Nat):Int),1≤140737488355328,BlkEqv (.row 5 (1:Nat) (1:Nat) (catF (0:Nat) (fun (x x_1:Nat) => .nilif) fun i j=>nthD [.int .u8 (↑([(65:UInt8),66,67,68,69,70,71,72,73,74,75,76,77,78,79,80,81,82,83,84,85,86,87,88,89,90,97,98,99,100,101,102,103,104,105,106,107,108,109,110,111,112,113,114,115,116,117,118,119,120,121,122,48,49,50,51,52,53,54,55,56,57,45,95].getD (six v (0:Nat)).toNat (0:UInt8)).toNat:Int)] (((0:Nat)+i)*(1:Nat)+j))) (.row 5 (1:Nat) (1:Nat) (bytesF [sgn6 v (0:Nat)])),0+1≤1,inR .i64 ((↑(0:Nat):Int)+(1:Int))] ⟨rfl,i6,i6,oM,fun _ _=>trivial,aS,oM,oM,aS,oM,i6⟩ ?_
     exact za [(40,992)] (again _ (1,some (1,[sgn6 v 0])) aS oM)
    ·obtain ⟨hk,hl1,hn,hb⟩:=hf
     rcases Nat.lt_or_ge m k with hk3 | hk3
     ·obtain rfl:k=m+1:=by omega
      have again:=again0
      have hv':=hv
      have hm':=hm
      have hnx:encOF b (g+1,some (n,l)):=⟨by omega,by omega,by rw [hl1,hv',hm'];rfl,hn,by omega⟩
      clear hv hm hv' hm' hl1 hin
      refine zg [] [false] [decide ((↑(m+(1:Nat)):Int)≤(m:Int))=false,inR .i64 ((↑((3:Nat)*g):Int)+(3:Int))] ⟨sO,i6⟩ ?_
      exact za [] (again _ (g+1,some (n,l)) aS oM)
     ·have hx:=eqvD_of (congrArg (fun x=>V1.c (.int .i64 x)) (six_is v k oM hv3))
      have hs:0≤six v k∧six v k<((64:Nat):Int):=by unfold six;omega
      have e1:BlkEqv (.row 5 1 (n+1) (catF n (bytesF l) (fun i j=>nthD [.int .u8 ((([65,66,67,68,69,70,71,72,73,74,75,76,77,78,79,80,81,82,83,84,85,86,87,88,89,90,97,98,99,100,101,102,103,104,105,106,107,108,109,110,111,112,113,114,115,116,117,118,119,120,121,122,48,49,50,51,52,53,54,55,56,57,45,95]:List UInt8).getD (six v k).toNat 0).toNat:Int)] ((0+i)*1+j)))) (.row 5 1 (n+1) (bytesF (l++[sgn6 v k]))):=bytes_app l [sgn6 v k] hn
      have hnx:enc2F b g v m (k+1,some (n+1,l++[sgn6 v k])):=⟨by omega,by rw [hl1,List.append_assoc];rfl,by simp [hn],by omega⟩
      clear hl1 hin
      refine zg [(15,{fm:=[(6,.c (.int .i64 (six v k)))],bs:=[(9,.row 5 1 (n+1) (bytesF (l++[sgn6 v k])))]})] [true] [decide ((k:Int)≤(m:Int))=true,inR .i64 (6*(k:Int)),inR .i64 (18-6*(k:Int)),(0:Int)≤(18:Int)-(6:Int)*(k:Int),EqvI (.c (.int .i64 (bitsI .and .i64 (v.fdiv ((2:Int)^min ((18:Int)-(6:Int)*(k:Int)).toNat IntKind.i64.bits)) (63:Int)))) (.c (.int .i64 (six v k))),EqvD (.c (.int .i64 (bitsI .and .i64 (v.fdiv ((2:Int)^min ((18:Int)-(6:Int)*(k:Int)).toNat IntKind.i64.bits)) (63:Int)))) (.c (.int .i64 (six v k))),(0:Int)≤six v k∧six v k<(↑(64:Nat):Int),(n+1)*1≤140737488355328,BlkEqv (.row 5 (1:Nat) (n+(1:Nat)) (catF n (bytesF l) fun i j=>nthD [.int .u8 (↑([(65:UInt8),66,67,68,69,70,71,72,73,74,75,76,77,78,79,80,81,82,83,84,85,86,87,88,89,90,97,98,99,100,101,102,103,104,105,106,107,108,109,110,111,112,113,114,115,116,117,118,119,120,121,122,48,49,50,51,52,53,54,55,56,57,45,95].getD (six v k).toNat (0:UInt8)).toNat:Int)] (((0:Nat)+i)*(1:Nat)+j))) (.row 5 (1:Nat) (n+(1:Nat)) (bytesF (l++[sgn6 v k]))),n≤n,0+1≤1,inR .i64 ((k:Int)+1)] ⟨sO,i6,i6,oM,fun _ _=>trivial,aS,oM,oM,aS,oM,oM,i6⟩ ?_
      exact za [(40,992)] (again _ (k+1,some (n+1,l++[sgn6 v k])) aS oM)
  ·clear again0
   refine zg [] [false] [decide ((↑((3:Nat)*g):Int)<(b.length:Int))=false,0+n≤n,areBytes (bytesF l) 0 n] ⟨sO,oM,areBytes_F _ _ _⟩ ?_
   exact zS [.c (.str (byteL (bytesF l) (0:Nat) n))] (by rw [byteL_F l hn0,hl0,enc8,show g=(b.length+2) / 3 by omega])



def sixtyB (c:UInt8):Bool:=greatB c||smallB c||digitB c||c==45||c==95
theorem sixty_ok (c:UInt8):Pur Tryz.prog G 93 [.c (.int .u8 (c.toNat:Int))] [.c (.bool (sixtyB c))]:=by
 refine zp Tryz.func93 ?_
 refine z0 [(1,{cs:=[(1,pc (great_ok c)),(4,pc (small_ok c)),(8,pc (digit_ok c))]})] [] ?_
 exact zS [.c (.bool (bif bif bif bif greatB c then true else smallB c then true else digitB c then true else (↑c.toNat:Int)==(45:Int) then true else (↑c.toNat:Int)==(95:Int)))] (by revert c;refine by_all _ _ ?_;kernel_rfl)
theorem lib_HasPrefix {G:Nat→Option (List Cell)} [Back G] (s p:List UInt8):Pur Tryz.prog G 82 [.c (.str s),.c (.str p)] [.c (.bool (Lib.hasPrefix s p))]:=by
 refine Pur.of_below rfl ?_
 intro D ρ w vs h1 _ _ _
 obtain ⟨u,v,rfl,hu,hv⟩:=h1.two
 have hu:u = .string ⟨s.toArray⟩:=hu
 have hv:v = .string ⟨p.toArray⟩:=hv
 subst hu hv
 refine (Go.Proofs.Tryz.strings_HasPrefix ⟨s.toArray⟩ ⟨p.toArray⟩ w).mono ?_
 rintro e w' ⟨rfl,rfl⟩
 exact ⟨_,rfl,by simp [ResDen,DenV,Den],BelowD.refl _ _⟩
def sgFrom:List UInt8→UInt8→Nat→Int
 | [],_,_ => -1
 | x::r,c,n=>if x=c then (n:Int) else sgFrom r c (n+1)
def sgI (c:UInt8):Int:=sgFrom sgs c 0
theorem sgs_len:sgs.length=64:=rfl
theorem sgI_lib (c:UInt8):Lib.indexByte sgs c=sgI c:=eq_of_beq (byte_all (fun c=>Lib.indexByte sgs c==sgI c) kR c)
theorem sgI_rng (c:UInt8):sgI c = -1∨(0≤sgI c∧sgI c<64∧sgs.getD (sgI c).toNat 0=c):=by
 have:=byte_all (fun c=>(sgI c == -1)||(decide (0≤sgI c)&&decide (sgI c<64)&&(sgs.getD (sgI c).toNat 0==c))) kR c
 simp only [Bool.or_eq_true,beq_iff_eq,Bool.and_eq_true,decide_eq_true_eq] at this
 rcases this with h | ⟨⟨h1,h2⟩,h3⟩
 ·exact .inl h
 ·exact .inr ⟨h1,h2,h3⟩
theorem sgI_at:∀ n,n<64→sgI (sgs.getD n 0)=(n:Int):=by
 have:∀ n∈List.range 64,sgI (sgs.getD n 0)=(n:Int):=by
  have h:(List.range 64).all (fun n=>sgI (sgs.getD n 0)==(n:Int))=true:=kR
  intro n hn
  exact eq_of_beq (List.all_eq_true.1 h n hn)
 exact fun n hn=>this n (List.mem_range.2 hn)
theorem sgs_drop (k:Nat) (h:k<64) (c:UInt8):sgFrom (sgs.drop k) c k=if sgs.getD k 0=c then (k:Int) else sgFrom (sgs.drop (k+1)) c (k+1):=by
 rw [dropS sgs k (by rw [sgs_len];exact h)];rfl
theorem sign8_ok (c:UInt8):Pur Tryz.prog G 97 [.c (.int .u8 (c.toNat:Int))] [.c (.int .i64 (sgI c))]:=by
 refine zp Tryz.func97 ?_
 refine z0 [] [] ?_
 refine zl (fun (k:Nat)=>⟨[(0,.v (.c (.int .u8 (↑c.toNat:Int)))),(3,.v (.c (.int .i64 (k:Int))))],[],32⟩) (fun k=>k≤64∧sgI c=sgFrom (sgs.drop k) c k) (fun k=>64-k) 0 ⟨Nat.zero_le _,rfl⟩ ?_
 intro k L ⟨hk,hq⟩ again
 rcases Nat.lt_or_ge k 64 with hlt | hge
 ·rw [sgs_drop k hlt] at hq
  have e1:EqvD (.c (.int .u8 (([65,66,67,68,69,70,71,72,73,74,75,76,77,78,79,80,81,82,83,84,85,86,87,88,89,90,97,98,99,100,101,102,103,104,105,106,107,108,109,110,111,112,113,114,115,116,117,118,119,120,121,122,48,49,50,51,52,53,54,55,56,57,45,95]:List UInt8).getD ((k:Int).toNat) 0).toNat)) (.c (.int .u8 ((sgs.getD k 0).toNat:Int))):=fun _ _ _ h=>h
  have ht0:decide ((k:Int)<64)=true:=by simp;omega
  by_cases hc:sgs.getD k 0=c
  ·rw [if_pos hc] at hq
   have ht:(((sgs.getD k 0).toNat:Int)==(c.toNat:Int))=true:=by rw [hc];simp
   rw [hq]
   clear hc
   refine zg [(4,{fm:=[(1,.c (.int .u8 ((sgs.getD k 0).toNat:Int)))]})] [true,true] [decide ((k:Int)<64)=true,EqvI (.c (.int .u8 (↑([(65:UInt8),66,67,68,69,70,71,72,73,74,75,76,77,78,79,80,81,82,83,84,85,86,87,88,89,90,97,98,99,100,101,102,103,104,105,106,107,108,109,110,111,112,113,114,115,116,117,118,119,120,121,122,48,49,50,51,52,53,54,55,56,57,45,95].getD k (0:UInt8)).toNat:Int))) (.c (.int .u8 (↑(sgs.getD k (0:UInt8)).toNat:Int))),EqvD (.c (.int .u8 (↑([(65:UInt8),66,67,68,69,70,71,72,73,74,75,76,77,78,79,80,81,82,83,84,85,86,87,88,89,90,97,98,99,100,101,102,103,104,105,106,107,108,109,110,111,112,113,114,115,116,117,118,119,120,121,122,48,49,50,51,52,53,54,55,56,57,45,95].getD k (0:UInt8)).toNat:Int))) (.c (.int .u8 (↑(sgs.getD k (0:UInt8)).toNat:Int))),(0:Int)≤(k:Int)∧(k:Int)<(↑(64:Nat):Int),((↑(sgs.getD k (0:UInt8)).toNat:Int)==(c.toNat:Int))=true] ⟨aS,fun _ _=>trivial,aS,oM,(show ((↑(sgs.getD k (0:UInt8)).toNat:Int)==(↑c.toNat:Int))=true from aS)⟩ ?_
   exact zr
  ·rw [if_neg hc] at hq
   have ht:(((sgs.getD k 0).toNat:Int)==(c.toNat:Int))=false:=by
    rw [beq_eq_false_iff_ne];intro h;exact hc (UInt8.toNat_inj.1 oM)
   clear hc
   refine zg [(4,{fm:=[(1,.c (.int .u8 ((sgs.getD k 0).toNat:Int)))]})] [true,false] [decide ((k:Int)<64)=true,EqvI (.c (.int .u8 (↑([(65:UInt8),66,67,68,69,70,71,72,73,74,75,76,77,78,79,80,81,82,83,84,85,86,87,88,89,90,97,98,99,100,101,102,103,104,105,106,107,108,109,110,111,112,113,114,115,116,117,118,119,120,121,122,48,49,50,51,52,53,54,55,56,57,45,95].getD k (0:UInt8)).toNat:Int))) (.c (.int .u8 (↑(sgs.getD k (0:UInt8)).toNat:Int))),EqvD (.c (.int .u8 (↑([(65:UInt8),66,67,68,69,70,71,72,73,74,75,76,77,78,79,80,81,82,83,84,85,86,87,88,89,90,97,98,99,100,101,102,103,104,105,106,107,108,109,110,111,112,113,114,115,116,117,118,119,120,121,122,48,49,50,51,52,53,54,55,56,57,45,95].getD k (0:UInt8)).toNat:Int))) (.c (.int .u8 (↑(sgs.getD k (0:UInt8)).toNat:Int))),(0:Int)≤(k:Int)∧(k:Int)<(↑(64:Nat):Int),((↑(sgs.getD k (0:UInt8)).toNat:Int)==(c.toNat:Int))=false,inR .i64 ((k:Int)+1)] ⟨aS,fun _ _=>trivial,aS,oM,aS,i6⟩ ?_
   exact za [] (again _ (k+1) oM oM)
 ·obtain rfl:k=64:=by omega
  have hq:sgI c = -1:=hq
  rw [hq]
  refine zg [] [false] [decide ((↑(64:Nat):Int)<(64:Int))=false] rfl ?_
  exact zr
def b8 (x:Int) (k:Nat):UInt8:=UInt8.ofNat (x / 2^k).toNat
def rd8:List UInt8→Int→Nat→List UInt8→Option (List UInt8)
 | [],_,_,out=>some out
 | c::r,v,bits,out=>if sgI c<0 then none else if bits<2 then rd8 r (v*64+sgI c) (bits+6) out
   else rd8 r ((v*64+sgI c)%2^(bits-2)) (bits-2) (out++[b8 (v*64+sgI c) (bits-2)])
def dec8 (s:List UInt8):Option (List UInt8):=match rd8 s 0 0 [] with
 | none=>none
 | some o=>if enc8 o=s then some o else none
def slB (b:List UInt8):Cell:=match b with
 | [] => .nilsl
 | _::_ => .sl 1 b.length (bytesF b)
theorem slB_cons {b:List UInt8} (h:0<b.length):slB b = .sl 1 b.length (bytesF b):=by
 cases b with
 | nil=>simp at h
 | cons=>rfl
def decR (s:List UInt8):List V1:=match dec8 s with
 | none=>[.c .nilsl,.c (.int .i64 3)]
 | some o=>[.c (slB o),.c (.int .i64 0)]
def pow2 (m:Nat):Int:=2^m
theorem pow2_rng (m:Nat) (h:m≤6):1≤pow2 m∧pow2 m≤64:=by
 have:m=0∨m=1∨m=2∨m=3∨m=4∨m=5∨m=6:=by omega
 rcases this with rfl | rfl | rfl | rfl | rfl | rfl | rfl<;>decide
theorem shl_is (m:Nat) (h:m≤4):IntKind.i64.wrap (1*2^(min ((m:Int)).toNat IntKind.i64.bits))=pow2 m:=by
 have:m=0∨m=1∨m=2∨m=3∨m=4:=by omega
 rcases this with rfl | rfl | rfl | rfl | rfl<;>rfl
theorem and_is (x:Int) (m:Nat) (hx:0≤x∧x<2^62) (h:m≤4):bitsI .and .i64 x (pow2 m-1)=x%pow2 m:=by
 obtain ⟨n,rfl⟩:=Int.eq_ofNat_of_zero_le hx.1
 have gen:∀ k:Nat,k≤4→(BitVec.ofInt 64 (pow2 k-1)).toNat=2^k-1:=by
  intro k hk
  have:k=0∨k=1∨k=2∨k=3∨k=4:=by omega
  rcases this with rfl | rfl | rfl | rfl | rfl<;>rfl
 have e:(BitVec.ofInt 64 (n:Int) &&& BitVec.ofInt 64 (pow2 m-1)).toNat=n%2^m:=by
  rw [BitVec.toNat_and,gen m h,Nat.and_two_pow_sub_one_eq_mod]
  have e1:(BitVec.ofInt 64 (n:Int)).toNat=n:=by rw [BitVec.toNat_ofInt];omega
  rw [e1]
 show IntKind.i64.wrap ((BitVec.ofInt 64 (n:Int) &&& BitVec.ofInt 64 (pow2 m-1)).toNat)=_
 rw [e]
 have hlt:n%2^m<64:=Nat.lt_of_lt_of_le (Nat.mod_lt _ (Nat.two_pow_pos m)) (by
  have:=Nat.pow_le_pow_right (show 0<2 by omega) h;omega)
 rw [wrap64 oM oM]
 show ((n%2^m:Nat):Int)=(n:Int)%(2^m:Int)
 rw [Int.natCast_emod,Int.natCast_pow];rfl
theorem byte_is (x:Int) (m:Nat) (h0:0≤x) (h1:x<256*pow2 m) (hm:m≤4):IntKind.u8.wrap (x.fdiv (2^(min ((m:Int)).toNat IntKind.i64.bits)))=((b8 x m).toNat:Int):=by
 have e:min ((m:Int)).toNat IntKind.i64.bits=m:=by show min _ 64=_;omega
 have hp:=(pow2_rng m oM).1
 rw [e,show (2:Int)^m=pow2 m from rfl,Int.fdiv_eq_ediv_of_nonneg _ oM]
 have hd0:0≤x / pow2 m:=Int.ediv_nonneg h0 oM
 have hd1:x / pow2 m<256:=Int.ediv_lt_of_lt_mul oM h1
 have:IntKind.u8.wrap (x / pow2 m)=x / pow2 m:=by simp [IntKind.wrap,IntKind.bits,IntKind.signed];omega
 rw [this,b8,show (2:Int)^m=pow2 m from rfl]
 obtain ⟨y,hy⟩:=Int.eq_ofNat_of_zero_le hd0
 rw [hy] at hd1 ⊢
 simp
 omega
def decInv (s:List UInt8):Nat×Int×Nat×Option (Nat×List UInt8)→St
 | (k,v,bits,none)=>⟨[(0,.v (.c (.str s))),(4,.v (.c .nilsl)),(5,.v (.c (.int .i64 v))),(6,.v (.c (.int .i64 (bits:Int)))),(7,.v (.c (.int .i64 (k:Int))))],[],96⟩
 | (k,v,bits,some (n,l))=>⟨[(0,.v (.c (.str s))),(4,.v (.c (.row 1 40 0 n))),(5,.v (.c (.int .i64 v))),(6,.v (.c (.int .i64 (bits:Int)))),(7,.v (.c (.int .i64 (k:Int))))],[(40,.row 5 1 n (bytesF l))],96⟩
def decF (s:List UInt8):Nat×Int×Nat×Option (Nat×List UInt8)→Prop
 | (k,v,bits,none)=>k≤s.length∧((k=0∧bits=0)∨(k=1∧bits=6))∧0≤v∧v<pow2 bits∧rd8 s 0 0 []=rd8 (s.drop k) v bits []
 | (k,v,bits,some (n,l))=>k≤s.length∧(bits=0∨bits=2∨bits=4∨bits=6)∧0≤v∧v<pow2 bits∧n=l.length∧0<n∧n≤k∧rd8 s 0 0 []=rd8 (s.drop k) v bits l
theorem rd8_bad {c:UInt8} {r:List UInt8} {v:Int} {bits:Nat} {out:List UInt8} (h:sgI c<0):rd8 (c::r) v bits out=none:=by rw [rd8,if_pos h]
theorem rd8_low {c:UInt8} {r:List UInt8} {v:Int} {bits:Nat} {out:List UInt8} (h:0≤sgI c) (hb:bits<2):rd8 (c::r) v bits out=rd8 r (v*64+sgI c) (bits+6) out:=by rw [rd8,if_neg oM,if_pos hb]
theorem rd8_high {c:UInt8} {r:List UInt8} {v:Int} {m:Nat} {out:List UInt8} (h:0≤sgI c):rd8 (c::r) v (m+2) out=rd8 r ((v*64+sgI c)%pow2 m) m (out++[b8 (v*64+sgI c) m]):=by rw [rd8,if_neg oM,if_neg oM];rfl
theorem dec8_none {s:List UInt8} (h:rd8 s 0 0 []=none):decR s=[.c .nilsl,.c (.int .i64 3)]:=by unfold decR dec8;rw [h]
theorem dec8_some {s o:List UInt8} (h:rd8 s 0 0 []=some o) (he:enc8 o=s):decR s=[.c (slB o),.c (.int .i64 0)]:=by unfold decR dec8;rw [h];simp only [he,if_true]
theorem dec8_not {s o:List UInt8} (h:rd8 s 0 0 []=some o) (he:enc8 o≠s):decR s=[.c .nilsl,.c (.int .i64 3)]:=by unfold decR dec8;rw [h];simp only [if_neg he]
theorem pow2_two (m:Nat):pow2 (m+2)=4*pow2 m:=by
 unfold pow2;rw [show m+2=(m+1)+1 from rfl,Int.pow_succ,Int.pow_succ];omega
theorem emod_rng (x:Int) (m:Nat) (hm:m≤4):0≤x%pow2 m∧x%pow2 m<pow2 m:=by
 have:=(pow2_rng m oM).1
 exact ⟨Int.emod_nonneg _ oM,Int.emod_lt_of_pos _ oM⟩
theorem nil_sl {f:Nat→Nat→Cell}:EqvD (.c .nilsl) (.c (.sl 1 0 f)):=fun D ρ u h=>⟨none,0,h,Nat.le_refl _,Nat.zero_le _,.inl rfl⟩
theorem dec8_ok (s:List UInt8) (hl:s.length≤30000000000000):Pur Tryz.prog G 98 [.c (.str s)] (decR s):=by
 refine zp Tryz.func98 ?_
 refine z0 [] [] ?_
 refine zl (decInv s) (decF s) (fun x=>s.length-x.1) (0,0,0,none) ⟨Nat.zero_le _,.inl ⟨rfl,rfl⟩,Int.le_refl 0,Int.zero_lt_one,rfl⟩ ?_
 rintro ⟨k,v,bits,_ | ⟨n,l⟩⟩ L hf again
 ·obtain ⟨hk,hb,hv0,hv1,hq⟩:=hf
  rcases Nat.lt_or_ge k s.length with hlt | hge
  ·rw [dropS s k hlt] at hq
   have ht0:decide ((k:Int)<(s.length:Int))=true:=by simp;omega
   have c1:=sign8_ok (G:=G) (s.getD k 0)
   rcases sgI_rng (s.getD k 0) with hs | ⟨hs0,hs1,_⟩
   ·rw [dec8_none (hq.trans (rd8_bad oM))]
    have ht1:decide (sgI (s.getD k 0)<0)=true:=by rw [hs];rfl
    clear hq hb
    refine zg [(6,{cs:=[(3,pc c1)]})] [true,true] [decide ((k:Int)<(s.length:Int))=true,(0:Int)≤(k:Int)∧(k:Int)<(s.length:Int),decide (sgI (s.getD k (0:UInt8))<(0:Int))=true] ⟨aS,oM,(show decide (sgI (s.getD k (0:UInt8))<(0:Int))=true from aS)⟩ ?_
    exact zr
   ·have ht1:decide (sgI (s.getD k 0)<0)=false:=decide_eq_false oM
    rcases hb with ⟨rfl,rfl⟩ | ⟨rfl,rfl⟩
    ·rw [rd8_low hs0 dC] at hq
     have hv1:v<1:=hv1
     have hnx:decF s (0+1,v*64+sgI (s.getD 0 0),6,none):=⟨by omega,.inr ⟨rfl,rfl⟩,by omega,by show _<(64:Int);omega,hq⟩
     have ht2:decide ((((0:Nat):Int)+6)≥8)=false:=rfl
     clear hq
     refine zg [(6,{cs:=[(3,pc c1)]})] [true,false,false] [decide ((↑(0:Nat):Int)<(s.length:Int))=true,(0:Int)≤(↑(0:Nat):Int)∧(↑(0:Nat):Int)<(s.length:Int),decide (sgI (s.getD (0:Nat) (0:UInt8))<(0:Int))=false,inR .i64 (v*64),inR .i64 (v*(64:Int)+sgI (s.getD (0:Nat) (0:UInt8))),inR .i64 ((↑(0:Nat):Int)+(6:Int)),decide ((↑(0:Nat):Int)+(6:Int)≥(8:Int))=false,inR .i64 ((↑(0:Nat):Int)+(1:Int))] ⟨aS,oM,aS,i6,i6,i6,rfl,i6⟩ ?_
     exact za [] (again _ (0+1,v*64+sgI (s.getD 0 0),6,none) aS oM)
    ·have hq:=hq.trans (rd8_high (m:=4) hs0)
     have hv1:v<64:=hv1
     have hr:=emod_rng (v*64+sgI (s.getD 1 0)) 4 dC
     have hp4:pow2 4=16:=rfl
     have hnx:decF s (1+1,(v*64+sgI (s.getD 1 0))%pow2 4,4,some (1,[b8 (v*64+sgI (s.getD 1 0)) 4])):=⟨by omega,.inr (.inr (.inl rfl)),hr.1,hr.2,rfl,by decide,by decide,hq⟩
     have ht2:decide ((((6:Nat):Int)+6)≥8)=true:=rfl
     have e1:EqvD (.c (.int .u8 (IntKind.u8.wrap ((v*64+sgI (s.getD 1 0)).fdiv (2^4))))) (.c (.int .u8 ((b8 (v*64+sgI (s.getD 1 0)) 4).toNat:Int))):=eqvD_of (by rw [← byte_is _ 4 oM (show _<256*(16:Int) by omega) dC];rfl)
     have e2:=row_new ((b8 (v*64+sgI (s.getD 1 0)) 4).toNat:Int) (b8 (v*64+sgI (s.getD 1 0)) 4) rfl
     have e3:EqvD (.c (.int .i64 (bitsI .and .i64 (v*64+sgI (s.getD 1 0)) (pow2 4-1)))) (.c (.int .i64 ((v*64+sgI (s.getD 1 0))%pow2 4))):=eqvD_of (by rw [and_is _ 4 oM dC])
     clear hq hr
     refine zg [(12,{fm:=[(4,.c (.int .u8 ((b8 (v*64+sgI (s.getD 1 0)) 4).toNat:Int)))],bs:=[(6,.row 5 1 1 (bytesF [b8 (v*64+sgI (s.getD 1 0)) 4]))]}),(13,{fm:=[(2,.c (.int .i64 (pow2 4))),(4,.c (.int .i64 ((v*64+sgI (s.getD 1 0))%pow2 4)))]}),(6,{cs:=[(3,pc c1)]})] [true,false,true] [decide ((↑(1:Nat):Int)<(s.length:Int))=true,(0:Int)≤(↑(1:Nat):Int)∧(↑(1:Nat):Int)<(s.length:Int),decide (sgI (s.getD (1:Nat) (0:UInt8))<(0:Int))=false,inR .i64 (v*64),inR .i64 (v*(64:Int)+sgI (s.getD (1:Nat) (0:UInt8))),inR .i64 ((↑(6:Nat):Int)+(6:Int)),decide ((↑(6:Nat):Int)+(6:Int)≥(8:Int))=true,inR .i64 ((↑(6:Nat):Int)+(6:Int)-(8:Int)),(0:Int)≤(↑(6:Nat):Int)+(6:Int)-(8:Int),EqvI (.c (.int .u8 (IntKind.u8.wrap ((v*(64:Int)+sgI (s.getD (1:Nat) (0:UInt8))).fdiv ((2:Int)^(4:Nat)))))) (.c (.int .u8 (↑(b8 (v*(64:Int)+sgI (s.getD (1:Nat) (0:UInt8))) (4:Nat)).toNat:Int))),EqvD (.c (.int .u8 (IntKind.u8.wrap ((v*(64:Int)+sgI (s.getD (1:Nat) (0:UInt8))).fdiv ((2:Int)^(4:Nat)))))) (.c (.int .u8 (↑(b8 (v*(64:Int)+sgI (s.getD (1:Nat) (0:UInt8))) (4:Nat)).toNat:Int))),1≤140737488355328,BlkEqv (.row 5 (1:Nat) (1:Nat) (catF (0:Nat) (fun (x x_1:Nat) => .nilif) fun i j=>nthD [.int .u8 (↑(b8 (v*(64:Int)+sgI (s.getD (1:Nat) (0:UInt8))) (4:Nat)).toNat:Int)] (((0:Nat)+i)*(1:Nat)+j))) (.row 5 (1:Nat) (1:Nat) (bytesF [b8 (v*(64:Int)+sgI (s.getD (1:Nat) (0:UInt8))) (4:Nat)])),0+1≤1,EqvI (.c (.int .i64 (IntKind.i64.wrap ((1:Int)*(2:Int)^(4:Nat))))) (.c (.int .i64 (pow2 (4:Nat)))),EqvD (.c (.int .i64 (IntKind.i64.wrap ((1:Int)*(2:Int)^(4:Nat))))) (.c (.int .i64 (pow2 (4:Nat)))),(0:Int)≤(↑(6:Nat):Int)+(6:Int)-(8:Int),inR .i64 (pow2 (4:Nat)-(1:Int)),EqvI (.c (.int .i64 (bitsI BinOp.and .i64 (v*(64:Int)+sgI (s.getD (1:Nat) (0:UInt8))) (pow2 (4:Nat)-(1:Int))))) (.c (.int .i64 ((v*(64:Int)+sgI (s.getD (1:Nat) (0:UInt8)))%pow2 (4:Nat)))),EqvD (.c (.int .i64 (bitsI BinOp.and .i64 (v*(64:Int)+sgI (s.getD (1:Nat) (0:UInt8))) (pow2 (4:Nat)-(1:Int))))) (.c (.int .i64 ((v*(64:Int)+sgI (s.getD (1:Nat) (0:UInt8)))%pow2 (4:Nat)))),inR .i64 ((↑(1:Nat):Int)+(1:Int))] ⟨aS,oM,aS,i6,i6,i6,rfl,i6,oM,fun _ _=>trivial,aS,oM,aS,oM,fun _ _=>trivial,fun _ _ _ h=>h,oM,i6,fun _ _=>trivial,aS,i6⟩ ?_
     exact za [(40,576)] (again _ (1+1,(v*64+sgI (s.getD 1 0))%pow2 4,4,some (1,[b8 (v*64+sgI (s.getD 1 0)) 4])) aS oM)
  ·have ht0:decide ((k:Int)<(s.length:Int))=false:=by simp;omega
   have hk:s.length=k:=by omega
   rw [← hk,List.drop_length] at hq
   have c2:Pur Tryz.prog G 41 [.c (.sl 1 0 (bytesF []))] [.c (.str [])]:=enc8_ok [] dC
   have e4:=nil_sl (f:=bytesF [])
   by_cases hs:s=[]
   ·rw [dec8_some hq (by rw [hs];rfl)]
    subst hs
    have ht3:(!(([]:List UInt8)==[]))=false:=rfl
    clear hb hv1
    refine zg [(14,{cs:=[(1,pc c2)],fm:=[(0,.c (.sl 1 0 (bytesF [])))]})] [false,false] [decide ((k:Int)<(↑([]:List UInt8).length:Int))=false,EqvI (.c .nilsl) (.c (.sl 1 0 (bytesF []))),EqvD (.c .nilsl) (.c (.sl 1 0 (bytesF []))),(!([]:List UInt8)==[])=false] ⟨rfl,fun _ _=>trivial,aS,rfl⟩ ?_
    exact zr
   ·rw [dec8_not hq (fun h=>hs h.symm)]
    have ht3:(!(([]:List UInt8)==s))=true:=by cases s with | nil=>exact (hs rfl).elim | cons=>rfl
    clear hb hv1
    refine zg [(14,{cs:=[(1,pc c2)],fm:=[(0,.c (.sl 1 0 (bytesF [])))]})] [false,true] [decide ((k:Int)<(s.length:Int))=false,EqvI (.c .nilsl) (.c (.sl 1 0 (bytesF []))),EqvD (.c .nilsl) (.c (.sl 1 0 (bytesF []))),(![]==s)=true] ⟨aS,fun _ _=>trivial,aS,(show (![]==s)=true from aS)⟩ ?_
    exact zr
 ·obtain ⟨hk,hb,hv0,hv1,hn,hn0,hnk,hq⟩:=hf
  rcases Nat.lt_or_ge k s.length with hlt | hge
  ·rw [dropS s k hlt] at hq
   have ht0:decide ((k:Int)<(s.length:Int))=true:=by simp;omega
   have c1:=sign8_ok (G:=G) (s.getD k 0)
   rcases sgI_rng (s.getD k 0) with hs | ⟨hs0,hs1,_⟩
   ·rw [dec8_none (hq.trans (rd8_bad oM))]
    have ht1:decide (sgI (s.getD k 0)<0)=true:=by rw [hs];rfl
    clear hq hb
    refine zg [(6,{cs:=[(3,pc c1)]})] [true,true] [decide ((k:Int)<(s.length:Int))=true,(0:Int)≤(k:Int)∧(k:Int)<(s.length:Int),decide (sgI (s.getD k (0:UInt8))<(0:Int))=true] ⟨aS,oM,(show decide (sgI (s.getD k (0:UInt8))<(0:Int))=true from aS)⟩ ?_
    exact zr
   ·have ht1:decide (sgI (s.getD k 0)<0)=false:=decide_eq_false oM
    by_cases hb0:bits=0
    ·subst hb0
     rw [rd8_low hs0 dC] at hq
     have hv1:v<1:=hv1
     have hnx:decF s (k+1,v*64+sgI (s.getD k 0),6,some (n,l)):=⟨by omega,.inr (.inr (.inr rfl)),by omega,by show _<(64:Int);omega,hn,hn0,by omega,hq⟩
     have ht2:decide ((((0:Nat):Int)+6)≥8)=false:=rfl
     clear hq
     refine zg [(6,{cs:=[(3,pc c1)]})] [true,false,false] [decide ((k:Int)<(s.length:Int))=true,(0:Int)≤(k:Int)∧(k:Int)<(s.length:Int),decide (sgI (s.getD k (0:UInt8))<(0:Int))=false,inR .i64 (v*64),inR .i64 (v*64+sgI (s.getD k (0:UInt8))),inR .i64 ((↑(0:Nat):Int)+(6:Int)),decide ((↑(0:Nat):Int)+(6:Int)≥(8:Int))=false,inR .i64 ((k:Int)+1)] ⟨aS,oM,aS,i6,i6,i6,rfl,i6⟩ ?_
     exact za [] (again _ (k+1,v*64+sgI (s.getD k 0),6,some (n,l)) aS oM)
    ·obtain ⟨m,rfl⟩:∃ m,bits=m+2:=⟨bits-2,by omega⟩
     have hm:m≤4:=by omega
     have hq:=hq.trans (rd8_high (m:=m) hs0)
     rw [pow2_two] at hv1
     have hr:=emod_rng (v*64+sgI (s.getD k 0)) m hm
     have hp:=pow2_rng m oM
     have hlo:0≤v*64+sgI (s.getD k 0):=by omega
     have hhi:v*64+sgI (s.getD k 0)<256*pow2 m:=by omega
     have hnx:decF s (k+1,(v*64+sgI (s.getD k 0))%pow2 m,m,some (n+1,l++[b8 (v*64+sgI (s.getD k 0)) m])):=⟨by omega,by omega,hr.1,hr.2,by simp [hn],by omega,by omega,hq⟩
     have ht2:decide ((((m+2:Nat):Int)+6)≥8)=true:=by simp;omega
     have e0:EqvD (.c (.int .i64 (((m+2:Nat):Int)+6-8))) (.c (.int .i64 (m:Int))):=eqvD_of (by rw [show ((m+2:Nat):Int)+6-8=(m:Int) by omega])
     have e1:EqvD (.c (.int .u8 (IntKind.u8.wrap ((v*64+sgI (s.getD k 0)).fdiv (2^(min ((m:Int)).toNat IntKind.i64.bits)))))) (.c (.int .u8 ((b8 (v*64+sgI (s.getD k 0)) m).toNat:Int))):=eqvD_of (by rw [byte_is _ m hlo hhi hm])
     have e2:BlkEqv (.row 5 1 (n+1) (catF n (bytesF l) (fun i j=>nthD [.int .u8 ((b8 (v*64+sgI (s.getD k 0)) m).toNat:Int)] ((0+i)*1+j)))) (.row 5 1 (n+1) (bytesF (l++[b8 (v*64+sgI (s.getD k 0)) m]))):=bytes_app l [b8 (v*64+sgI (s.getD k 0)) m] hn
     have e3:EqvD (.c (.int .i64 (bitsI .and .i64 (v*64+sgI (s.getD k 0)) (pow2 m-1)))) (.c (.int .i64 ((v*64+sgI (s.getD k 0))%pow2 m))):=eqvD_of (by rw [and_is _ m oM hm])
     have e5:EqvD (.c (.int .i64 (IntKind.i64.wrap (1*2^(min ((m:Int)).toNat IntKind.i64.bits))))) (.c (.int .i64 (pow2 m))):=eqvD_of (by rw [shl_is m hm])
     clear hq hr hb hb0
     refine zg [(11,{fm:=[(1,.c (.int .i64 (m:Int)))]}),(12,{fm:=[(4,.c (.int .u8 ((b8 (v*64+sgI (s.getD k 0)) m).toNat:Int)))],bs:=[(6,.row 5 1 (n+1) (bytesF (l++[b8 (v*64+sgI (s.getD k 0)) m])))]}),(13,{fm:=[(2,.c (.int .i64 (pow2 m))),(4,.c (.int .i64 ((v*64+sgI (s.getD k 0))%pow2 m)))]}),(6,{cs:=[(3,pc c1)]})] [true,false,true] [decide ((k:Int)<(s.length:Int))=true,(0:Int)≤(k:Int)∧(k:Int)<(s.length:Int),decide (sgI (s.getD k (0:UInt8))<(0:Int))=false,inR .i64 (v*64),inR .i64 (v*64+sgI (s.getD k (0:UInt8))),inR .i64 ((↑(m+(2:Nat)):Int)+(6:Int)),decide ((↑(m+(2:Nat)):Int)+(6:Int)≥(8:Int))=true,EqvI (.c (.int .i64 ((↑(m+(2:Nat)):Int)+(6:Int)-(8:Int)))) (.c (.int .i64 (m:Int))),EqvD (.c (.int .i64 ((↑(m+(2:Nat)):Int)+(6:Int)-(8:Int)))) (.c (.int .i64 (m:Int))),inR .i64 ((↑(m+(2:Nat)):Int)+(6:Int)-(8:Int)),(0:Int)≤(m:Int),EqvI (.c (.int .u8 (IntKind.u8.wrap ((v*(64:Int)+sgI (s.getD k (0:UInt8))).fdiv ((2:Int)^min m IntKind.i64.bits))))) (.c (.int .u8 (↑(b8 (v*(64:Int)+sgI (s.getD k (0:UInt8))) m).toNat:Int))),EqvD (.c (.int .u8 (IntKind.u8.wrap ((v*(64:Int)+sgI (s.getD k (0:UInt8))).fdiv ((2:Int)^min m IntKind.i64.bits))))) (.c (.int .u8 (↑(b8 (v*(64:Int)+sgI (s.getD k (0:UInt8))) m).toNat:Int))),(n+1)*1≤140737488355328,BlkEqv (.row 5 (1:Nat) (n+(1:Nat)) (catF n (bytesF l) fun i j=>nthD [.int .u8 (↑(b8 (v*(64:Int)+sgI (s.getD k (0:UInt8))) m).toNat:Int)] (((0:Nat)+i)*(1:Nat)+j))) (.row 5 (1:Nat) (n+(1:Nat)) (bytesF (l++[b8 (v*(64:Int)+sgI (s.getD k (0:UInt8))) m]))),n≤n,0+1≤1,EqvI (.c (.int .i64 (IntKind.i64.wrap ((1:Int)*(2:Int)^min m IntKind.i64.bits)))) (.c (.int .i64 (pow2 m))),EqvD (.c (.int .i64 (IntKind.i64.wrap ((1:Int)*(2:Int)^min m IntKind.i64.bits)))) (.c (.int .i64 (pow2 m))),(0:Int)≤(m:Int),inR .i64 (pow2 m-1),EqvI (.c (.int .i64 (bitsI BinOp.and .i64 (v*(64:Int)+sgI (s.getD k (0:UInt8))) (pow2 m-(1:Int))))) (.c (.int .i64 ((v*(64:Int)+sgI (s.getD k (0:UInt8)))%pow2 m))),EqvD (.c (.int .i64 (bitsI BinOp.and .i64 (v*(64:Int)+sgI (s.getD k (0:UInt8))) (pow2 m-(1:Int))))) (.c (.int .i64 ((v*(64:Int)+sgI (s.getD k (0:UInt8)))%pow2 m))),inR .i64 ((k:Int)+1)] ⟨aS,oM,aS,i6,i6,i6,aS,fun _ _=>trivial,aS,i6,oM,fun _ _=>trivial,aS,oM,aS,oM,oM,fun _ _=>trivial,aS,oM,i6,fun _ _=>trivial,aS,i6⟩ ?_
     exact za [(40,576)] (again _ (k+1,(v*64+sgI (s.getD k 0))%pow2 m,m,some (n+1,l++[b8 (v*64+sgI (s.getD k 0)) m])) aS oM)
  ·have ht0:decide ((k:Int)<(s.length:Int))=false:=by simp;omega
   have hk:s.length=k:=by omega
   rw [← hk,List.drop_length] at hq
   subst hn
   have c2:=enc8_ok (G:=G) l oM
   by_cases hs:enc8 l=s
   ·rw [dec8_some hq hs,slB_cons hn0]
    have ht3:(!(enc8 l==s))=false:=by rw [hs];simp
    clear hb hv1
    refine zg [(14,{cs:=[(1,lc [40] [.row 5 1 l.length (bytesF l)] [.c (.row 1 0 0 l.length)] c2 kR kR kR (show 0+l.length≤l.length from oM))]})] [false,false] [decide ((k:Int)<(s.length:Int))=false,(!enc8 l==s)=false] ⟨aS,(show (!enc8 l==s)=false from aS)⟩ ?_
    refine Wp.ent' kR (Ent.pubT (t:=2) (e:=5) (sz:=(1:Nat)) (id:=40) (off:=(0:Nat)) (m:=l.length) (n:=l.length) (f:=bytesF l) (m':=l.length) (f':=bytesF l) kR kR oM rfl (fun i _ j _=>by rw [Nat.zero_add]) rfl) ?_
    exact zr
   ·rw [dec8_not hq hs]
    have ht3:(!(enc8 l==s))=true:=by simp [hs]
    clear hb hv1
    refine zg [(14,{cs:=[(1,lc [40] [.row 5 1 l.length (bytesF l)] [.c (.row 1 0 0 l.length)] c2 kR kR kR (show 0+l.length≤l.length from oM))]})] [false,true] [decide ((k:Int)<(s.length:Int))=false,(!enc8 l==s)=true] ⟨aS,(show (!enc8 l==s)=true from aS)⟩ ?_
    exact zr
theorem wrap8u {x:Int} (h:0≤x∧x<256):IntKind.u8.wrap x=x:=by simp [IntKind.wrap,IntKind.bits,IntKind.signed];omega
theorem or_is (x y:Int) (k:Nat) (hx:0≤x∧x<256) (hy:0≤y∧y<2^k) (hm:x%2^k=0) (hk:k≤7):bitsI .or .u8 x y=x+y:=by
 obtain ⟨a,rfl⟩:=Int.eq_ofNat_of_zero_le hx.1
 obtain ⟨b,rfl⟩:=Int.eq_ofNat_of_zero_le hy.1
 have hm:a%2^k=0:=by
  have:((a%2^k:Nat):Int)=0:=by rw [Int.natCast_emod,Int.natCast_pow];exact hm
  omega
 have hb:b<2^k:=by
  have:((b:Nat):Int)<((2^k:Nat):Int):=by rw [Int.natCast_pow];exact hy.2
  omega
 have h2k:2^k≤128:=by have:=Nat.pow_le_pow_right (show 0<2 by omega) hk;omega
 have h2:2^k*(a / 2^k)=a:=by have:=Nat.div_add_mod a (2^k);omega
 have hor:a ||| b=a+b:=by
  have:=Nat.two_pow_add_eq_or_of_lt hb (a / 2^k)
  rw [h2] at this;exact this.symm
 have e:(BitVec.ofInt 8 (a:Int) ||| BitVec.ofInt 8 (b:Int)).toNat=a+b:=by
  rw [BitVec.toNat_or,BitVec.toNat_ofInt,BitVec.toNat_ofInt]
  rw [show ((a:Int)%((2^8:Nat):Int)).toNat=a by omega,show ((b:Int)%((2^8:Nat):Int)).toNat=b by omega,hor]
 have hlt:a+b<256:=by
  have e8:a ||| b<2^8:=Nat.or_lt_two_pow oM oM
  rw [hor] at e8;omega
 show IntKind.u8.wrap ((BitVec.ofInt 8 (a:Int) ||| BitVec.ofInt 8 (b:Int)).toNat)=_
 rw [e,wrap8u oM];simp
theorem and63 (x:Int) (hx:0≤x∧x<256):bitsI .and .u8 x 63=x%64:=by
 obtain ⟨n,rfl⟩:=Int.eq_ofNat_of_zero_le hx.1
 have e:(BitVec.ofInt 8 (n:Int) &&& BitVec.ofInt 8 63).toNat=n%64:=by
  rw [BitVec.toNat_and]
  have e1:(BitVec.ofInt 8 (n:Int)).toNat=n:=by rw [BitVec.toNat_ofInt];omega
  have e2:(BitVec.ofInt 8 63).toNat=2^6-1:=rfl
  rw [e1,e2,Nat.and_two_pow_sub_one_eq_mod]
 show IntKind.u8.wrap ((BitVec.ofInt 8 (n:Int) &&& BitVec.ofInt 8 63).toNat)=_
 rw [e,wrap8u oM];simp
theorem fdiv_is (x:Int) (k:Nat) (hx:0≤x):x.fdiv (2^k)=x / 2^k:=Int.fdiv_eq_ediv_of_nonneg _ (Int.le_of_lt (Int.pow_pos dC))
theorem wrap_mod (x:Int):IntKind.u8.wrap x=x%256:=by simp [IntKind.wrap,IntKind.bits,IntKind.signed]
theorem three_ok (a b c d:Int) (ha:0≤a∧a<64) (hb:0≤b∧b<64) (hc:0≤c∧c<64) (hd:0≤d∧d<64):Pur Tryz.prog G 190 [.agg [.int .u8 a,.int .u8 b,.int .u8 c,.int .u8 d]] [.agg [.int .u8 (a*4+b / 16),.int .u8 (b%16*16+c / 4),.int .u8 (c%4*64+d)]]:=by
 refine zp Tryz.func190 ?_
 have e1:EqvD (.c (.int .u8 (IntKind.u8.wrap (a*2^2)))) (.c (.int .u8 (a*4))):=eqvD_of (by rw [wrap_mod];congr 2;omega)
 have e2:EqvD (.c (.int .u8 (b.fdiv (2^4)))) (.c (.int .u8 (b / 16))):=eqvD_of (by rw [fdiv_is b 4 hb.1];rfl)
 have e3:EqvD (.c (.int .u8 (bitsI .or .u8 (a*4) (b / 16)))) (.c (.int .u8 (a*4+b / 16))):=eqvD_of (by rw [or_is _ _ 2 oM (by constructor<;>(show _;first | omega | (have:(2:Int)^2=4:=rfl;omega))) (by have:(2:Int)^2=4:=rfl;omega) dC])
 have e4:EqvD (.c (.int .u8 (IntKind.u8.wrap (b*2^4)))) (.c (.int .u8 (b%16*16))):=eqvD_of (by rw [wrap_mod];congr 2;omega)
 have e5:EqvD (.c (.int .u8 (c.fdiv (2^2)))) (.c (.int .u8 (c / 4))):=eqvD_of (by rw [fdiv_is c 2 hc.1];rfl)
 have e6:EqvD (.c (.int .u8 (bitsI .or .u8 (b%16*16) (c / 4)))) (.c (.int .u8 (b%16*16+c / 4))):=eqvD_of (by rw [or_is _ _ 4 oM (by have:(2:Int)^4=16:=rfl;omega) (by have:(2:Int)^4=16:=rfl;omega) dC])
 have e7:EqvD (.c (.int .u8 (IntKind.u8.wrap (c*2^6)))) (.c (.int .u8 (c%4*64))):=eqvD_of (by rw [wrap_mod];congr 2;omega)
 have e8:EqvD (.c (.int .u8 (bitsI .or .u8 (c%4*64) d))) (.c (.int .u8 (c%4*64+d))):=eqvD_of (by rw [or_is _ _ 6 oM (by have:(2:Int)^6=64:=rfl;omega) (by have:(2:Int)^6=64:=rfl;omega) dC])
 refine zg [(1,{fm:=[(2,.c (.int .u8 (a*4))),(5,.c (.int .u8 (b / 16))),(6,.c (.int .u8 (a*4+b / 16))),(9,.c (.int .u8 (b%16*16))),(12,.c (.int .u8 (c / 4))),(13,.c (.int .u8 (b%16*16+c / 4))),(16,.c (.int .u8 (c%4*64))),(19,.c (.int .u8 (c%4*64+d)))]})] [] [(0:Int)≤(0:Int)∧(0:Int)<(↑(4:Nat):Int),EqvI (.c (.int .u8 (IntKind.u8.wrap (a*(2:Int)^(2:Nat))))) (.c (.int .u8 (a*(4:Int)))),EqvD (.c (.int .u8 (IntKind.u8.wrap (a*(2:Int)^(2:Nat))))) (.c (.int .u8 (a*(4:Int)))),(0:Int)≤(2:Int),(0:Int)≤(1:Int)∧(1:Int)<(↑(4:Nat):Int),EqvI (.c (.int .u8 (b.fdiv ((2:Int)^(4:Nat))))) (.c (.int .u8 (b / (16:Int)))),EqvD (.c (.int .u8 (b.fdiv ((2:Int)^(4:Nat))))) (.c (.int .u8 (b / (16:Int)))),(0:Int)≤(4:Int),EqvI (.c (.int .u8 (bitsI BinOp.or .u8 (a*(4:Int)) (b / (16:Int))))) (.c (.int .u8 (a*(4:Int)+b / (16:Int)))),EqvD (.c (.int .u8 (bitsI BinOp.or .u8 (a*(4:Int)) (b / (16:Int))))) (.c (.int .u8 (a*(4:Int)+b / (16:Int)))),(0:Int)≤(1:Int)∧(1:Int)<(↑(4:Nat):Int),EqvI (.c (.int .u8 (IntKind.u8.wrap (b*(2:Int)^(4:Nat))))) (.c (.int .u8 (b%(16:Int)*(16:Int)))),EqvD (.c (.int .u8 (IntKind.u8.wrap (b*(2:Int)^(4:Nat))))) (.c (.int .u8 (b%(16:Int)*(16:Int)))),(0:Int)≤(4:Int),(0:Int)≤(2:Int)∧(2:Int)<(↑(4:Nat):Int),EqvI (.c (.int .u8 (c.fdiv ((2:Int)^(2:Nat))))) (.c (.int .u8 (c / (4:Int)))),EqvD (.c (.int .u8 (c.fdiv ((2:Int)^(2:Nat))))) (.c (.int .u8 (c / (4:Int)))),(0:Int)≤(2:Int),EqvI (.c (.int .u8 (bitsI BinOp.or .u8 (b%(16:Int)*(16:Int)) (c / (4:Int))))) (.c (.int .u8 (b%(16:Int)*(16:Int)+c / (4:Int)))),EqvD (.c (.int .u8 (bitsI BinOp.or .u8 (b%(16:Int)*(16:Int)) (c / (4:Int))))) (.c (.int .u8 (b%(16:Int)*(16:Int)+c / (4:Int)))),(0:Int)≤(2:Int)∧(2:Int)<(↑(4:Nat):Int),EqvI (.c (.int .u8 (IntKind.u8.wrap (c*(2:Int)^(6:Nat))))) (.c (.int .u8 (c%(4:Int)*(64:Int)))),EqvD (.c (.int .u8 (IntKind.u8.wrap (c*(2:Int)^(6:Nat))))) (.c (.int .u8 (c%(4:Int)*(64:Int)))),(0:Int)≤(6:Int),(0:Int)≤(3:Int)∧(3:Int)<(↑(4:Nat):Int),EqvI (.c (.int .u8 (bitsI BinOp.or .u8 (c%(4:Int)*(64:Int)) d))) (.c (.int .u8 (c%(4:Int)*(64:Int)+d))),EqvD (.c (.int .u8 (bitsI BinOp.or .u8 (c%(4:Int)*(64:Int)) d))) (.c (.int .u8 (c%(4:Int)*(64:Int)+d)))] ⟨oM,fun _ _=>trivial,aS,oM,oM,fun _ _=>trivial,aS,oM,fun _ _=>trivial,aS,oM,fun _ _=>trivial,aS,oM,oM,fun _ _=>trivial,aS,oM,fun _ _=>trivial,aS,oM,fun _ _=>trivial,aS,oM,oM,fun _ _=>trivial,(show EqvD (.c (.int .u8 (bitsI BinOp.or .u8 (c%(4:Int)*(64:Int)) d))) (.c (.int .u8 (c%(4:Int)*(64:Int)+d))) from aS)⟩ ?_
 exact zr
def by3 (b:List UInt8) (j:Nat):Int:=((b.getD j 0).toNat:Int)
theorem by3_rng (b:List UInt8) (j:Nat):0≤by3 b j∧by3 b j<256:=by have:=UInt8.toNat_lt (b.getD j 0);unfold by3;omega
theorem blkEqv_of {b b':Blk} (h:b=b'):BlkEqv b b':=by subst h;exact ⟨fun _ _ _ _ h=>h,fun _ h=>h⟩
theorem cpy3 (e:TypeId) (b:List UInt8) (hb:b.length≤3):BlkEqv (.box e (cpyL 0 b.length (bytesF b) [.int .u8 0,.int .u8 0,.int .u8 0])) (.box e [.int .u8 (by3 b 0),.int .u8 (by3 b 1),.int .u8 (by3 b 2)]):=by
 refine blkEqv_of ?_
 match b,hb with
 | [],_=>rfl
 | [_],_=>rfl
 | [_,_],_=>rfl
 | [_,_,_],_=>rfl
 | _::_::_::_::_,h=>exact absurd h (by simp)
theorem four_ok (b:List UInt8) (hb:b.length≤3):Pur Tryz.prog G 142 [.c (.sl 1 b.length (bytesF b))] [.agg [.int .u8 (by3 b 0 / 4),.int .u8 (by3 b 0%4*16+by3 b 1 / 16),.int .u8 (by3 b 1%16*4+by3 b 2 / 64),.int .u8 (by3 b 2%64)]]:=by
 refine zp Tryz.func142 ?_
 have r0:=by3_rng b 0
 have r1:=by3_rng b 1
 have r2:=by3_rng b 2
 have hfl:∀ k,k<b.length→(bytesF b k 0).flat=true:=fun _ _=>rfl
 have hcp:=cpy3 204 b hb
 have e1:EqvD (.c (.int .u8 ((by3 b 0).fdiv (2^2)))) (.c (.int .u8 (by3 b 0 / 4))):=eqvD_of (by rw [fdiv_is _ 2 r0.1];rfl)
 have e2:EqvD (.c (.int .u8 (IntKind.u8.wrap (by3 b 0*2^4)))) (.c (.int .u8 (by3 b 0%16*16))):=eqvD_of (by rw [wrap_mod];congr 2;omega)
 have e3:EqvD (.c (.int .u8 (bitsI .and .u8 (by3 b 0%16*16) 63))) (.c (.int .u8 (by3 b 0%4*16))):=eqvD_of (by rw [and63 _ oM];congr 2;omega)
 have e4:EqvD (.c (.int .u8 ((by3 b 1).fdiv (2^4)))) (.c (.int .u8 (by3 b 1 / 16))):=eqvD_of (by rw [fdiv_is _ 4 r1.1];rfl)
 have e5:EqvD (.c (.int .u8 (bitsI .or .u8 (by3 b 0%4*16) (by3 b 1 / 16)))) (.c (.int .u8 (by3 b 0%4*16+by3 b 1 / 16))):=eqvD_of (by rw [or_is _ _ 4 oM (by have:(2:Int)^4=16:=rfl;omega) (by have:(2:Int)^4=16:=rfl;omega) dC])
 have e6:EqvD (.c (.int .u8 (IntKind.u8.wrap (by3 b 1*2^2)))) (.c (.int .u8 (by3 b 1%64*4))):=eqvD_of (by rw [wrap_mod];congr 2;omega)
 have e7:EqvD (.c (.int .u8 (bitsI .and .u8 (by3 b 1%64*4) 63))) (.c (.int .u8 (by3 b 1%16*4))):=eqvD_of (by rw [and63 _ oM];congr 2;omega)
 have e8:EqvD (.c (.int .u8 ((by3 b 2).fdiv (2^6)))) (.c (.int .u8 (by3 b 2 / 64))):=eqvD_of (by rw [fdiv_is _ 6 r2.1];rfl)
 have e9:EqvD (.c (.int .u8 (bitsI .or .u8 (by3 b 1%16*4) (by3 b 2 / 64)))) (.c (.int .u8 (by3 b 1%16*4+by3 b 2 / 64))):=eqvD_of (by rw [or_is _ _ 2 oM (by have:(2:Int)^2=4:=rfl;omega) (by have:(2:Int)^2=4:=rfl;omega) dC])
 have e10:EqvD (.c (.int .u8 (bitsI .and .u8 (by3 b 2) 63))) (.c (.int .u8 (by3 b 2%64))):=eqvD_of (by rw [and63 _ r2])
 refine zg [(2,{bs:=[(2,.box 204 [.int .u8 (by3 b 0),.int .u8 (by3 b 1),.int .u8 (by3 b 2)])]}),(3,{fm:=[(2,.c (.int .u8 (by3 b 0 / 4))),(5,.c (.int .u8 (by3 b 0%16*16))),(6,.c (.int .u8 (by3 b 0%4*16))),(9,.c (.int .u8 (by3 b 1 / 16))),(10,.c (.int .u8 (by3 b 0%4*16+by3 b 1 / 16))),(13,.c (.int .u8 (by3 b 1%64*4))),(14,.c (.int .u8 (by3 b 1%16*4))),(17,.c (.int .u8 (by3 b 2 / 64))),(18,.c (.int .u8 (by3 b 1%16*4+by3 b 2 / 64))),(21,.c (.int .u8 (by3 b 2%64)))]})] [] [(0:Int)≤Int.ofNat (0)∧Int.ofNat (0)≤Int.ofNat (3:Nat)∧Int.ofNat (3:Nat)≤(↑(3:Nat):Int),b.length≤3,3≤3,∀ (k:Nat),k<b.length→true=true,BlkEqv (.box 204 [if 0<0 then nthD [.int .u8 0,.int .u8 0,.int .u8 0] 0 else if 0<0+b.length then bytesF b 0 0 else nthD [.int .u8 0,.int .u8 0,.int .u8 0] 0,if 0+1<0 then nthD [.int .u8 0,.int .u8 0,.int .u8 0] (0+1) else if 0+1<0+b.length then bytesF b 1 0 else nthD [.int .u8 0,.int .u8 0,.int .u8 0] (0+1),if 0+1+1<0 then nthD [.int .u8 0,.int .u8 0,.int .u8 0] (0+1+1) else if 0+1+1<0+b.length then bytesF b 2 0 else nthD [.int .u8 0,.int .u8 0,.int .u8 0] (0+1+1)]) (.box 204 [.int .u8 (by3 b 0),.int .u8 (by3 b 1),.int .u8 (by3 b 2)]),(0:Int)≤(0:Int)∧(0:Int)<(↑(3:Nat):Int),EqvI (.c (.int .u8 ((by3 b (0:Nat)).fdiv ((2:Int)^(2:Nat))))) (.c (.int .u8 (by3 b (0:Nat) / (4:Int)))),EqvD (.c (.int .u8 ((by3 b (0:Nat)).fdiv ((2:Int)^(2:Nat))))) (.c (.int .u8 (by3 b (0:Nat) / (4:Int)))),(0:Int)≤(2:Int),(0:Int)≤(0:Int)∧(0:Int)<(↑(3:Nat):Int),EqvI (.c (.int .u8 (IntKind.u8.wrap (by3 b (0:Nat)*(2:Int)^(4:Nat))))) (.c (.int .u8 (by3 b (0:Nat)%(16:Int)*(16:Int)))),EqvD (.c (.int .u8 (IntKind.u8.wrap (by3 b (0:Nat)*(2:Int)^(4:Nat))))) (.c (.int .u8 (by3 b (0:Nat)%(16:Int)*(16:Int)))),(0:Int)≤(4:Int),EqvI (.c (.int .u8 (bitsI BinOp.and .u8 (by3 b (0:Nat)%(16:Int)*(16:Int)) (63:Int)))) (.c (.int .u8 (by3 b (0:Nat)%(4:Int)*(16:Int)))),EqvD (.c (.int .u8 (bitsI BinOp.and .u8 (by3 b (0:Nat)%(16:Int)*(16:Int)) (63:Int)))) (.c (.int .u8 (by3 b (0:Nat)%(4:Int)*(16:Int)))),(0:Int)≤(1:Int)∧(1:Int)<(↑(3:Nat):Int),EqvI (.c (.int .u8 ((by3 b (1:Nat)).fdiv ((2:Int)^(4:Nat))))) (.c (.int .u8 (by3 b (1:Nat) / (16:Int)))),EqvD (.c (.int .u8 ((by3 b (1:Nat)).fdiv ((2:Int)^(4:Nat))))) (.c (.int .u8 (by3 b (1:Nat) / (16:Int)))),(0:Int)≤(4:Int),EqvI (.c (.int .u8 (bitsI BinOp.or .u8 (by3 b (0:Nat)%(4:Int)*(16:Int)) (by3 b (1:Nat) / (16:Int))))) (.c (.int .u8 (by3 b (0:Nat)%(4:Int)*(16:Int)+by3 b (1:Nat) / (16:Int)))),EqvD (.c (.int .u8 (bitsI BinOp.or .u8 (by3 b (0:Nat)%(4:Int)*(16:Int)) (by3 b (1:Nat) / (16:Int))))) (.c (.int .u8 (by3 b (0:Nat)%(4:Int)*(16:Int)+by3 b (1:Nat) / (16:Int)))),(0:Int)≤(1:Int)∧(1:Int)<(↑(3:Nat):Int),EqvI (.c (.int .u8 (IntKind.u8.wrap (by3 b (1:Nat)*(2:Int)^(2:Nat))))) (.c (.int .u8 (by3 b (1:Nat)%(64:Int)*(4:Int)))),EqvD (.c (.int .u8 (IntKind.u8.wrap (by3 b (1:Nat)*(2:Int)^(2:Nat))))) (.c (.int .u8 (by3 b (1:Nat)%(64:Int)*(4:Int)))),(0:Int)≤(2:Int),EqvI (.c (.int .u8 (bitsI BinOp.and .u8 (by3 b (1:Nat)%(64:Int)*(4:Int)) (63:Int)))) (.c (.int .u8 (by3 b (1:Nat)%(16:Int)*(4:Int)))),EqvD (.c (.int .u8 (bitsI BinOp.and .u8 (by3 b (1:Nat)%(64:Int)*(4:Int)) (63:Int)))) (.c (.int .u8 (by3 b (1:Nat)%(16:Int)*(4:Int)))),(0:Int)≤(2:Int)∧(2:Int)<(↑(3:Nat):Int),EqvI (.c (.int .u8 ((by3 b (2:Nat)).fdiv ((2:Int)^(6:Nat))))) (.c (.int .u8 (by3 b (2:Nat) / (64:Int)))),EqvD (.c (.int .u8 ((by3 b (2:Nat)).fdiv ((2:Int)^(6:Nat))))) (.c (.int .u8 (by3 b (2:Nat) / (64:Int)))),(0:Int)≤(6:Int),EqvI (.c (.int .u8 (bitsI BinOp.or .u8 (by3 b (1:Nat)%(16:Int)*(4:Int)) (by3 b (2:Nat) / (64:Int))))) (.c (.int .u8 (by3 b (1:Nat)%(16:Int)*(4:Int)+by3 b (2:Nat) / (64:Int)))),EqvD (.c (.int .u8 (bitsI BinOp.or .u8 (by3 b (1:Nat)%(16:Int)*(4:Int)) (by3 b (2:Nat) / (64:Int))))) (.c (.int .u8 (by3 b (1:Nat)%(16:Int)*(4:Int)+by3 b (2:Nat) / (64:Int)))),(0:Int)≤(2:Int)∧(2:Int)<(↑(3:Nat):Int),EqvI (.c (.int .u8 (bitsI BinOp.and .u8 (by3 b (2:Nat)) (63:Int)))) (.c (.int .u8 (by3 b (2:Nat)%(64:Int)))),EqvD (.c (.int .u8 (bitsI BinOp.and .u8 (by3 b (2:Nat)) (63:Int)))) (.c (.int .u8 (by3 b (2:Nat)%(64:Int))))] ⟨⟨dC,⟨dC,dC⟩⟩,aS,oM,aS,aS,oM,fun _ _=>trivial,aS,oM,oM,fun _ _=>trivial,aS,oM,fun _ _=>trivial,aS,oM,fun _ _=>trivial,aS,oM,fun _ _=>trivial,aS,oM,fun _ _=>trivial,aS,oM,fun _ _=>trivial,aS,oM,fun _ _=>trivial,aS,oM,fun _ _=>trivial,aS,oM,fun _ _=>trivial,(show EqvD (.c (.int .u8 (bitsI BinOp.and .u8 (by3 b (2:Nat)) (63:Int)))) (.c (.int .u8 (by3 b (2:Nat)%(64:Int)))) from aS)⟩ ?_
 exact zr
def xv (s:List UInt8) (i j:Nat):Int:=if j<i then sgI (s.getD j 0) else 0
theorem xv_old (s:List UInt8) (i j:Nat) (h:j≠i):xv s i j=xv s (i+1) j:=by
 unfold xv
 by_cases hj:j<i
 ·rw [if_pos hj,if_pos oM]
 ·rw [if_neg hj,if_neg oM]
theorem xv_new (s:List UInt8) (i:Nat):xv s (i+1) i=sgI (s.getD i 0):=if_pos oM
theorem xv_rng (s:List UInt8) (i j:Nat) (h:∀ k,k<i→0≤sgI (s.getD k 0)):0≤xv s i j∧xv s i j<64:=by
 unfold xv
 split
 ·have:=h j aS
  rcases sgI_rng (s.getD j 0) with h1 | h1<;>omega
 ·omega
def o3 (s:List UInt8):List Int:=[xv s s.length 0*4+xv s s.length 1 / 16,xv s s.length 1%16*16+xv s s.length 2 / 4,xv s s.length 2%4*64+xv s s.length 3]
theorem idx8_ok (c:UInt8):Pur Tryz.prog G 189 [.c (.str [65,66,67,68,69,70,71,72,73,74,75,76,77,78,79,80,81,82,83,84,85,86,87,88,89,90,97,98,99,100,101,102,103,104,105,106,107,108,109,110,111,112,113,114,115,116,117,118,119,120,121,122,48,49,50,51,52,53,54,55,56,57,45,95]),.c (.int .u8 (c.toNat:Int))] [.c (.int .i64 (sgI c))]:=by
 have:=lib_IndexByte (G:=G) sgs c
 rw [sgI_lib] at this
 exact this
def outB (s:List UInt8):List UInt8:=((o3 s).map (fun x=>UInt8.ofNat x.toNat)).take (s.length-1)
def qB (s:List UInt8):Bool:=(by3 (outB s) 0 / 4==xv s s.length 0)&&((by3 (outB s) 0%4*16+by3 (outB s) 1 / 16==xv s s.length 1)&&((by3 (outB s) 1%16*4+by3 (outB s) 2 / 64==xv s s.length 2)&&((by3 (outB s) 2%64==xv s s.length 3)&&true)))
def sgnAll (s:List UInt8):Prop:=∀ j,j<s.length→0≤sgI (s.getD j 0)
theorem outB_len (s:List UInt8) (h4:s.length≤4):(outB s).length=s.length-1:=by
 simp only [outB,o3,List.map,List.length_take,List.length_cons,List.length_nil];omega
theorem u8_of {x:Int} (h:0≤x∧x<256):((UInt8.ofNat x.toNat).toNat:Int)=x:=by
 obtain ⟨n,rfl⟩:=Int.eq_ofNat_of_zero_le h.1
 simp;omega
theorem outB_cell (s:List UInt8) (h4:s.length≤4) (ha:sgnAll s) (i:Nat) (hi:i<s.length-1):nthD [.int .u8 (xv s s.length 0*4+xv s s.length 1 / 16),.int .u8 (xv s s.length 1%16*16+xv s s.length 2 / 4),.int .u8 (xv s s.length 2%4*64+xv s s.length 3)] i = .int .u8 (((outB s).getD i 0).toNat:Int):=by
 have x0:=xv_rng s s.length 0 ha
 have x1:=xv_rng s s.length 1 ha
 have x2:=xv_rng s s.length 2 ha
 have x3:=xv_rng s s.length 3 ha
 have e:(outB s).getD i 0=((o3 s).map (fun x=>UInt8.ofNat x.toNat)).getD i 0:=by
  simp only [outB,List.getD_eq_getElem?_getD,List.getElem?_take,if_pos hi]
 rw [e]
 have:i=0∨i=1∨i=2:=by omega
 rcases this with rfl | rfl | rfl
 ·exact congrArg (Cell.int .u8) (u8_of oM).symm
 ·exact congrArg (Cell.int .u8) (u8_of oM).symm
 ·exact congrArg (Cell.int .u8) (u8_of oM).symm
def partG (s:List UInt8):List V1:=[.c (.sl 1 (s.length-1) (bytesF (outB s))),.c (.bool (if s.length=1 then false else qB s))]
theorem part_bad (s:List UInt8) (h0:0<s.length) (h4:s.length≤4) (hb:¬ sgnAll s):Pur Tryz.prog G 148 [.c (.str s)] [.c .nilsl,.c (.bool false)]:=by
 refine zp Tryz.func148 ?_
 refine z0 [] [] ?_
 refine zl (fun (k:Nat)=>⟨[(0,.v (.c (.str s))),(4,.v (.c (.ptr (32:Nat) (0:Nat)))),(10,.v (.c (.int .i64 (↑s.length:Int)))),(11,.v (.c (.int .i64 (k:Int))))],[(32,.box 166 [.int .u8 (xv s k 0),.int .u8 (xv s k 1),.int .u8 (xv s k 2),.int .u8 (xv s k 3)])],96⟩) (fun k=>k≤s.length∧∀ j,j<k→0≤sgI (s.getD j 0)) (fun k=>s.length-k) 0 ⟨Nat.zero_le _,fun j hj=>absurd hj oM⟩ ?_ [(32,32)]
 intro k L ⟨hk,hq⟩ again
 rcases Nat.lt_or_ge k s.length with hlt | hge
 ·have ht0:decide ((k:Int)<(s.length:Int))=true:=by simp;omega
  have c1:=idx8_ok (G:=G) (s.getD k 0)
  rcases sgI_rng (s.getD k 0) with hs | ⟨hs0,hs1,_⟩
  ·have ht1:decide (sgI (s.getD k 0)<0)=true:=by rw [hs];rfl
   clear hq hb
   refine zg [(5,{cs:=[(3,pc c1)]})] [true,true] [decide ((k:Int)<(s.length:Int))=true,(0:Int)≤(k:Int)∧(k:Int)<(s.length:Int),decide (sgI (s.getD k (0:UInt8))<(0:Int))=true] ⟨aS,oM,(show decide (sgI (s.getD k (0:UInt8))<(0:Int))=true from aS)⟩ ?_
   exact zr
  ·have ht1:decide (sgI (s.getD k 0)<0)=false:=decide_eq_false oM
   have hnx:∀ j,j<k+1→0≤sgI (s.getD j 0):=fun j hj=>by
    by_cases h:j=k
    ·rw [h];exact hs0
    ·exact hq j oM
   have e1:EqvD (.c (.int .u8 (IntKind.u8.wrap (sgI (s.getD k 0))))) (.c (.int .u8 (sgI (s.getD k 0)))):=eqvD_of (by rw [wrap8u oM])
   have n0:=xv_new s k
   have o0:=xv_old s k 0
   have o1:=xv_old s k 1
   have o2:=xv_old s k 2
   have o3:=xv_old s k 3
   clear hq hb
   have:k=0∨k=1∨k=2∨k=3:=by omega
   rcases this with rfl | rfl | rfl | rfl
   ·rw [o1 dC,o2 dC,o3 dC]
    refine zg [(8,{fm:=[(2,.c (.int .u8 (sgI (s.getD 0 0))))]}),(5,{cs:=[(3,pc c1)]})] [true,false] [decide ((↑(0:Nat):Int)<(s.length:Int))=true,(0:Int)≤(↑(0:Nat):Int)∧(↑(0:Nat):Int)<(s.length:Int),decide (sgI (s.getD (0:Nat) (0:UInt8))<(0:Int))=false,EqvI (.c (.int .u8 (IntKind.u8.wrap (sgI (s.getD (0:Nat) (0:UInt8)))))) (.c (.int .u8 (sgI (s.getD (0:Nat) (0:UInt8))))),EqvD (.c (.int .u8 (IntKind.u8.wrap (sgI (s.getD (0:Nat) (0:UInt8)))))) (.c (.int .u8 (sgI (s.getD (0:Nat) (0:UInt8))))),(0:Int)≤(↑(0:Nat):Int)∧(↑(0:Nat):Int)<(↑(4:Nat):Int),inR .i64 ((↑(0:Nat):Int)+(1:Int))] ⟨(by assumption),(by omega),(by assumption),fun _ _=>trivial,(by assumption),(by omega),inR64 (by omega) (by omega)⟩ ?_
    exact za [] (again _ (0+1) ⟨aS,aS⟩ oM)
   ·rw [o0 dC,o2 dC,o3 dC]
    refine zg [(8,{fm:=[(2,.c (.int .u8 (sgI (s.getD 1 0))))]}),(5,{cs:=[(3,pc c1)]})] [true,false] [decide ((↑(1:Nat):Int)<(s.length:Int))=true,(0:Int)≤(↑(1:Nat):Int)∧(↑(1:Nat):Int)<(s.length:Int),decide (sgI (s.getD (1:Nat) (0:UInt8))<(0:Int))=false,EqvI (.c (.int .u8 (IntKind.u8.wrap (sgI (s.getD (1:Nat) (0:UInt8)))))) (.c (.int .u8 (sgI (s.getD (1:Nat) (0:UInt8))))),EqvD (.c (.int .u8 (IntKind.u8.wrap (sgI (s.getD (1:Nat) (0:UInt8)))))) (.c (.int .u8 (sgI (s.getD (1:Nat) (0:UInt8))))),(0:Int)≤(↑(1:Nat):Int)∧(↑(1:Nat):Int)<(↑(4:Nat):Int),inR .i64 ((↑(1:Nat):Int)+(1:Int))] ⟨(by assumption),(by omega),(by assumption),fun _ _=>trivial,(by assumption),(by omega),inR64 (by omega) (by omega)⟩ ?_
    exact za [] (again _ (1+1) ⟨aS,aS⟩ oM)
   ·rw [o0 dC,o1 dC,o3 dC]
    refine zg [(8,{fm:=[(2,.c (.int .u8 (sgI (s.getD 2 0))))]}),(5,{cs:=[(3,pc c1)]})] [true,false] [decide ((↑(2:Nat):Int)<(s.length:Int))=true,(0:Int)≤(↑(2:Nat):Int)∧(↑(2:Nat):Int)<(s.length:Int),decide (sgI (s.getD (2:Nat) (0:UInt8))<(0:Int))=false,EqvI (.c (.int .u8 (IntKind.u8.wrap (sgI (s.getD (2:Nat) (0:UInt8)))))) (.c (.int .u8 (sgI (s.getD (2:Nat) (0:UInt8))))),EqvD (.c (.int .u8 (IntKind.u8.wrap (sgI (s.getD (2:Nat) (0:UInt8)))))) (.c (.int .u8 (sgI (s.getD (2:Nat) (0:UInt8))))),(0:Int)≤(↑(2:Nat):Int)∧(↑(2:Nat):Int)<(↑(4:Nat):Int),inR .i64 ((↑(2:Nat):Int)+(1:Int))] ⟨(by assumption),(by omega),(by assumption),fun _ _=>trivial,(by assumption),(by omega),inR64 (by omega) (by omega)⟩ ?_
    exact za [] (again _ (2+1) ⟨aS,aS⟩ oM)
   ·rw [o0 dC,o1 dC,o2 dC]
    refine zg [(8,{fm:=[(2,.c (.int .u8 (sgI (s.getD 3 0))))]}),(5,{cs:=[(3,pc c1)]})] [true,false] [decide ((↑(3:Nat):Int)<(s.length:Int))=true,(0:Int)≤(↑(3:Nat):Int)∧(↑(3:Nat):Int)<(s.length:Int),decide (sgI (s.getD (3:Nat) (0:UInt8))<(0:Int))=false,EqvI (.c (.int .u8 (IntKind.u8.wrap (sgI (s.getD (3:Nat) (0:UInt8)))))) (.c (.int .u8 (sgI (s.getD (3:Nat) (0:UInt8))))),EqvD (.c (.int .u8 (IntKind.u8.wrap (sgI (s.getD (3:Nat) (0:UInt8)))))) (.c (.int .u8 (sgI (s.getD (3:Nat) (0:UInt8))))),(0:Int)≤(↑(3:Nat):Int)∧(↑(3:Nat):Int)<(↑(4:Nat):Int),inR .i64 ((↑(3:Nat):Int)+(1:Int))] ⟨(by assumption),(by omega),(by assumption),fun _ _=>trivial,(by assumption),(by omega),inR64 (by omega) (by omega)⟩ ?_
    exact za [] (again _ (3+1) ⟨aS,aS⟩ oM)
 ·exact absurd (fun j hj=>hq j oM) hb
theorem part_good (s:List UInt8) (h0:0<s.length) (h4:s.length≤4) (ha:sgnAll s):Pur Tryz.prog G 148 [.c (.str s)] (partG s):=by
 refine zp Tryz.func148 ?_
 refine z0 [] [] ?_
 refine zl (fun (k:Nat)=>⟨[(0,.v (.c (.str s))),(4,.v (.c (.ptr (32:Nat) (0:Nat)))),(10,.v (.c (.int .i64 (↑s.length:Int)))),(11,.v (.c (.int .i64 (k:Int))))],[(32,.box 166 [.int .u8 (xv s k 0),.int .u8 (xv s k 1),.int .u8 (xv s k 2),.int .u8 (xv s k 3)])],96⟩) (fun k=>k≤s.length) (fun k=>s.length-k) 0 (Nat.zero_le _) ?_ [(32,32)]
 intro k L hk again
 rcases Nat.lt_or_ge k s.length with hlt | hge
 ·have ht0:decide ((k:Int)<(s.length:Int))=true:=by simp;omega
  have c1:=idx8_ok (G:=G) (s.getD k 0)
  have hs0:=ha k hlt
  have hs1:sgI (s.getD k 0)<64:=by rcases sgI_rng (s.getD k 0) with h | h<;>omega
  have ht1:decide (sgI (s.getD k 0)<0)=false:=decide_eq_false oM
  have e1:EqvD (.c (.int .u8 (IntKind.u8.wrap (sgI (s.getD k 0))))) (.c (.int .u8 (sgI (s.getD k 0)))):=eqvD_of (by rw [wrap8u oM])
  have n0:=xv_new s k
  have o0:=xv_old s k 0
  have o1:=xv_old s k 1
  have o2:=xv_old s k 2
  have o3:=xv_old s k 3
  have:k=0∨k=1∨k=2∨k=3:=by omega
  rcases this with rfl | rfl | rfl | rfl
  ·rw [o1 dC,o2 dC,o3 dC]
   refine zg [(8,{fm:=[(2,.c (.int .u8 (sgI (s.getD 0 0))))]}),(5,{cs:=[(3,pc c1)]})] [true,false] [decide ((↑(0:Nat):Int)<(s.length:Int))=true,(0:Int)≤(↑(0:Nat):Int)∧(↑(0:Nat):Int)<(s.length:Int),decide (sgI (s.getD (0:Nat) (0:UInt8))<(0:Int))=false,EqvI (.c (.int .u8 (IntKind.u8.wrap (sgI (s.getD (0:Nat) (0:UInt8)))))) (.c (.int .u8 (sgI (s.getD (0:Nat) (0:UInt8))))),EqvD (.c (.int .u8 (IntKind.u8.wrap (sgI (s.getD (0:Nat) (0:UInt8)))))) (.c (.int .u8 (sgI (s.getD (0:Nat) (0:UInt8))))),(0:Int)≤(↑(0:Nat):Int)∧(↑(0:Nat):Int)<(↑(4:Nat):Int),inR .i64 ((↑(0:Nat):Int)+(1:Int))] ⟨aS,oM,aS,fun _ _=>trivial,aS,oM,i6⟩ ?_
   exact za [] (again _ (0+1) aS oM)
  ·rw [o0 dC,o2 dC,o3 dC]
   refine zg [(8,{fm:=[(2,.c (.int .u8 (sgI (s.getD 1 0))))]}),(5,{cs:=[(3,pc c1)]})] [true,false] [decide ((↑(1:Nat):Int)<(s.length:Int))=true,(0:Int)≤(↑(1:Nat):Int)∧(↑(1:Nat):Int)<(s.length:Int),decide (sgI (s.getD (1:Nat) (0:UInt8))<(0:Int))=false,EqvI (.c (.int .u8 (IntKind.u8.wrap (sgI (s.getD (1:Nat) (0:UInt8)))))) (.c (.int .u8 (sgI (s.getD (1:Nat) (0:UInt8))))),EqvD (.c (.int .u8 (IntKind.u8.wrap (sgI (s.getD (1:Nat) (0:UInt8)))))) (.c (.int .u8 (sgI (s.getD (1:Nat) (0:UInt8))))),(0:Int)≤(↑(1:Nat):Int)∧(↑(1:Nat):Int)<(↑(4:Nat):Int),inR .i64 ((↑(1:Nat):Int)+(1:Int))] ⟨aS,oM,aS,fun _ _=>trivial,aS,oM,i6⟩ ?_
   exact za [] (again _ (1+1) aS oM)
  ·rw [o0 dC,o1 dC,o3 dC]
   refine zg [(8,{fm:=[(2,.c (.int .u8 (sgI (s.getD 2 0))))]}),(5,{cs:=[(3,pc c1)]})] [true,false] [decide ((↑(2:Nat):Int)<(s.length:Int))=true,(0:Int)≤(↑(2:Nat):Int)∧(↑(2:Nat):Int)<(s.length:Int),decide (sgI (s.getD (2:Nat) (0:UInt8))<(0:Int))=false,EqvI (.c (.int .u8 (IntKind.u8.wrap (sgI (s.getD (2:Nat) (0:UInt8)))))) (.c (.int .u8 (sgI (s.getD (2:Nat) (0:UInt8))))),EqvD (.c (.int .u8 (IntKind.u8.wrap (sgI (s.getD (2:Nat) (0:UInt8)))))) (.c (.int .u8 (sgI (s.getD (2:Nat) (0:UInt8))))),(0:Int)≤(↑(2:Nat):Int)∧(↑(2:Nat):Int)<(↑(4:Nat):Int),inR .i64 ((↑(2:Nat):Int)+(1:Int))] ⟨aS,oM,aS,fun _ _=>trivial,aS,oM,i6⟩ ?_
   exact za [] (again _ (2+1) aS oM)
  ·rw [o0 dC,o1 dC,o2 dC]
   refine zg [(8,{fm:=[(2,.c (.int .u8 (sgI (s.getD 3 0))))]}),(5,{cs:=[(3,pc c1)]})] [true,false] [decide ((↑(3:Nat):Int)<(s.length:Int))=true,(0:Int)≤(↑(3:Nat):Int)∧(↑(3:Nat):Int)<(s.length:Int),decide (sgI (s.getD (3:Nat) (0:UInt8))<(0:Int))=false,EqvI (.c (.int .u8 (IntKind.u8.wrap (sgI (s.getD (3:Nat) (0:UInt8)))))) (.c (.int .u8 (sgI (s.getD (3:Nat) (0:UInt8))))),EqvD (.c (.int .u8 (IntKind.u8.wrap (sgI (s.getD (3:Nat) (0:UInt8)))))) (.c (.int .u8 (sgI (s.getD (3:Nat) (0:UInt8))))),(0:Int)≤(↑(3:Nat):Int)∧(↑(3:Nat):Int)<(↑(4:Nat):Int),inR .i64 ((↑(3:Nat):Int)+(1:Int))] ⟨aS,oM,aS,fun _ _=>trivial,aS,oM,i6⟩ ?_
   exact za [] (again _ (3+1) aS oM)
 ·obtain rfl:k=s.length:=by omega
  have ht0:decide ((s.length:Int)<(s.length:Int))=false:=by simp
  have c3:=three_ok (G:=G) (xv s s.length 0) (xv s s.length 1) (xv s s.length 2) (xv s s.length 3) (xv_rng s s.length 0 ha) (xv_rng s s.length 1 ha) (xv_rng s s.length 2 ha) (xv_rng s s.length 3 ha)
  refine z0 [] [] ?_
  refine zc (decide ((s.length:Int)<(s.length:Int))) (fun h9 => ?_) (fun h9 => ?_)
  ·rw [ht0] at h9;exact absurd h9 dC
  ·have hN:EqvD (.c (.int .i64 ((s.length:Int)-1))) (.c (.int .i64 ((s.length-1:Nat):Int))):=eqvD_of (by rw [show (s.length:Int)-1=((s.length-1:Nat):Int) by omega])
   refine zn [(10,{fm:=[(2,.c (.int .i64 ((s.length-1:Nat):Int)))]}),(11,{cs:=[(1,pc c3)]})] 6 [] [EqvI (.c (.int .i64 ((s.length:Int)-1))) (.c (.int .i64 ((s.length-1:Nat):Int))),EqvD (.c (.int .i64 ((s.length:Int)-1))) (.c (.int .i64 ((s.length-1:Nat):Int))),inR .i64 ((s.length:Int)-1)] ⟨fun _ _=>trivial,hN,i6⟩ ?_
   refine Wp.ent' kR (Ent.pubB (id:=208) (t:=8) (n:=3) (e:=204) (cs:=[Cell.int .u8 (xv s s.length 0*4+xv s s.length 1 / 16),Cell.int .u8 (xv s s.length 1%16*16+xv s s.length 2 / 4),Cell.int .u8 (xv s s.length 2%4*64+xv s s.length 3)]) (f:=nthD [Cell.int .u8 (xv s s.length 0*4+xv s s.length 1 / 16),Cell.int .u8 (xv s s.length 1%16*16+xv s s.length 2 / 4),Cell.int .u8 (xv s s.length 2%4*64+xv s s.length 3)]) kR kR kR rfl (fun j _=>rfl) rfl) ?_
   have c4:=four_ok (G:=G) (outB s) (by rw [outB_len s h4];omega)
   rw [outB_len s h4] at c4
   have hE:EqvD (.c (.sl 1 (s.length-1-0) (fun i j=>nthD [Cell.int .u8 (xv s s.length 0*4+xv s s.length 1 / 16),Cell.int .u8 (xv s s.length 1%16*16+xv s s.length 2 / 4),Cell.int .u8 (xv s s.length 2%4*64+xv s s.length 3)] ((0+i)*1+j)))) (.c (.sl 1 (s.length-1) (bytesF (outB s)))):=EqvD.sl (Nat.sub_zero _) (fun i hi j hj=>by
    obtain rfl:j=0:=by omega
    have e:(0+i)*1+0=i:=by simp
    rw [e]
    exact outB_cell s h4 ha i oM)
   have hb0:s.length-1≤3:=by omega
   by_cases h1:s.length=1
   ·have ht1:decide (((s.length-1:Nat):Int)>0)=false:=by simp;omega
    rw [show partG s=[.c (.sl 1 (s.length-1) (bytesF (outB s))),.c (.bool false)] by rw [partG,if_pos h1]]
    clear h9 ht0
    refine zg [(12,{fm:=[(2,.c (.sl 1 (s.length-1) (bytesF (outB s))))],grd:=[(6,false),(7,false),(8,false),(9,false),(10,false),(11,false),(12,false)]})] [] [EqvI (.c (.sl 1 ((Int.ofNat (s.length-(1:Nat))).toNat-(0:Nat)) fun i j=>nthD [.int .u8 (xv s s.length (0:Nat)*(4:Int)+xv s s.length (1:Nat) / (16:Int)),.int .u8 (xv s s.length (1:Nat)%(16:Int)*(16:Int)+xv s s.length (2:Nat) / (4:Int)),.int .u8 (xv s s.length (2:Nat)%(4:Int)*(64:Int)+xv s s.length (3:Nat))] (((0:Nat)+i)*(1:Nat)+j))) (.c (.sl 1 (s.length-(1:Nat)) (bytesF (outB s)))),EqvD (.c (.sl 1 ((Int.ofNat (s.length-(1:Nat))).toNat-(0:Nat)) fun i j=>nthD [.int .u8 (xv s s.length (0:Nat)*(4:Int)+xv s s.length (1:Nat) / (16:Int)),.int .u8 (xv s s.length (1:Nat)%(16:Int)*(16:Int)+xv s s.length (2:Nat) / (4:Int)),.int .u8 (xv s s.length (2:Nat)%(4:Int)*(64:Int)+xv s s.length (3:Nat))] (((0:Nat)+i)*(1:Nat)+j))) (.c (.sl 1 (s.length-(1:Nat)) (bytesF (outB s)))),(0:Int)≤Int.ofNat (0)∧Int.ofNat (0)≤Int.ofNat (s.length-(1:Nat))∧Int.ofNat (s.length-(1:Nat))≤Int.ofNat (s.length-(1:Nat))∧Int.ofNat (s.length-(1:Nat))≤(↑(3:Nat):Int),decide ((↑(s.length-(1:Nat)):Int)>(0:Int)) = !true,decide ((↑(s.length-(1:Nat)):Int)>(0:Int)) = !true,decide ((↑(s.length-(1:Nat)):Int)>(0:Int)) = !true,decide ((↑(s.length-(1:Nat)):Int)>(0:Int)) = !true,decide ((↑(s.length-(1:Nat)):Int)>(0:Int)) = !true,decide ((↑(s.length-(1:Nat)):Int)>(0:Int)) = !true,decide ((↑(s.length-(1:Nat)):Int)>(0:Int))=false] ⟨fun _ _=>trivial,aS,⟨dC,⟨(by simp;done),⟨oM,sO⟩⟩⟩,aS,aS,aS,aS,aS,aS,(show decide ((↑(s.length-(1:Nat)):Int)>(0:Int))=false from aS)⟩ ?_
    exact zr
   ·have ht1:decide (((s.length-1:Nat):Int)>0)=true:=by simp;omega
    rw [show partG s=[.c (.sl 1 (s.length-1) (bytesF (outB s))),.c (.bool (qB s))] by rw [partG,if_neg h1]]
    clear h9 ht0
    refine zg [(12,{cs:=[(9,pc c4)],fm:=[(2,.c (.sl 1 (s.length-1) (bytesF (outB s)))),(8,.c (.sl 1 (s.length-1) (bytesF (outB s))))],grd:=[(6,true),(7,true),(8,true),(9,true),(10,true),(11,true),(12,true)]})] [] [EqvI (.c (.sl 1 ((Int.ofNat (s.length-(1:Nat))).toNat-(0:Nat)) fun i j=>nthD [.int .u8 (xv s s.length (0:Nat)*(4:Int)+xv s s.length (1:Nat) / (16:Int)),.int .u8 (xv s s.length (1:Nat)%(16:Int)*(16:Int)+xv s s.length (2:Nat) / (4:Int)),.int .u8 (xv s s.length (2:Nat)%(4:Int)*(64:Int)+xv s s.length (3:Nat))] (((0:Nat)+i)*(1:Nat)+j))) (.c (.sl 1 (s.length-(1:Nat)) (bytesF (outB s)))),EqvD (.c (.sl 1 ((Int.ofNat (s.length-(1:Nat))).toNat-(0:Nat)) fun i j=>nthD [.int .u8 (xv s s.length (0:Nat)*(4:Int)+xv s s.length (1:Nat) / (16:Int)),.int .u8 (xv s s.length (1:Nat)%(16:Int)*(16:Int)+xv s s.length (2:Nat) / (4:Int)),.int .u8 (xv s s.length (2:Nat)%(4:Int)*(64:Int)+xv s s.length (3:Nat))] (((0:Nat)+i)*(1:Nat)+j))) (.c (.sl 1 (s.length-(1:Nat)) (bytesF (outB s)))),(0:Int)≤Int.ofNat (0)∧Int.ofNat (0)≤Int.ofNat (s.length-(1:Nat))∧Int.ofNat (s.length-(1:Nat))≤Int.ofNat (s.length-(1:Nat))∧Int.ofNat (s.length-(1:Nat))≤(↑(3:Nat):Int),decide ((↑(s.length-(1:Nat)):Int)>(0:Int))=true,decide ((↑(s.length-(1:Nat)):Int)>(0:Int))=true,decide ((↑(s.length-(1:Nat)):Int)>(0:Int))=true,EqvI (.c (.sl 1 ((Int.ofNat (s.length-(1:Nat))).toNat-(0:Nat)) fun i j=>nthD [.int .u8 (xv s s.length (0:Nat)*(4:Int)+xv s s.length (1:Nat) / (16:Int)),.int .u8 (xv s s.length (1:Nat)%(16:Int)*(16:Int)+xv s s.length (2:Nat) / (4:Int)),.int .u8 (xv s s.length (2:Nat)%(4:Int)*(64:Int)+xv s s.length (3:Nat))] (((0:Nat)+i)*(1:Nat)+j))) (.c (.sl 1 (s.length-(1:Nat)) (bytesF (outB s)))),EqvD (.c (.sl 1 ((Int.ofNat (s.length-(1:Nat))).toNat-(0:Nat)) fun i j=>nthD [.int .u8 (xv s s.length (0:Nat)*(4:Int)+xv s s.length (1:Nat) / (16:Int)),.int .u8 (xv s s.length (1:Nat)%(16:Int)*(16:Int)+xv s s.length (2:Nat) / (4:Int)),.int .u8 (xv s s.length (2:Nat)%(4:Int)*(64:Int)+xv s s.length (3:Nat))] (((0:Nat)+i)*(1:Nat)+j))) (.c (.sl 1 (s.length-(1:Nat)) (bytesF (outB s)))),(0:Int)≤Int.ofNat (0)∧Int.ofNat (0)≤Int.ofNat (s.length-(1:Nat))∧Int.ofNat (s.length-(1:Nat))≤Int.ofNat (s.length-(1:Nat))∧Int.ofNat (s.length-(1:Nat))≤(↑(3:Nat):Int),decide ((↑(s.length-(1:Nat)):Int)>(0:Int))=true,decide ((↑(s.length-(1:Nat)):Int)>(0:Int))=true,decide ((↑(s.length-(1:Nat)):Int)>(0:Int))=true,decide ((↑(s.length-(1:Nat)):Int)>(0:Int))=true] ⟨fun _ _=>trivial,aS,⟨dC,⟨(by simp;done),⟨oM,sO⟩⟩⟩,aS,aS,aS,fun _ _=>trivial,aS,⟨dC,⟨(by simp;done),⟨oM,sO⟩⟩⟩,aS,aS,aS,(show decide ((↑(s.length-(1:Nat)):Int)>(0:Int))=true from aS)⟩ ?_
    exact zr
end Go.Proofs.Tw
end
section
open Go Go.Sv Go.RowKit
namespace Go.Proofs.Tw
set_option maxRecDepth 100000
set_option maxHeartbeats 4000000
theorem rd8_acc:∀ (r:List UInt8) (v:Int) (bits:Nat) (out:List UInt8),rd8 r v bits out=(rd8 r v bits []).map (out++·)
 | [],_,_,out=>by simp [rd8]
 | c::r,v,bits,out=>by
  unfold rd8
  split
  ·rfl
  ·split
   ·exact rd8_acc r _ _ out
   ·rw [rd8_acc r _ _ (out++_),rd8_acc r _ _ ([]++_)]
    cases rd8 r ((v*64+sgI c)%2^(bits-2)) (bits-2) []<;>simp
theorem v3_shift (x y z:UInt8) (o:List UInt8) (g:Nat):∀ k,v3 (x::y::z::o) (3*(g+1)) k=v3 o (3*g) k∧n3 (x::y::z::o) (3*(g+1)) k=n3 o (3*g) k
 | 0=>⟨rfl,rfl⟩
 | k+1=>by
  obtain ⟨h1,h2⟩:=v3_shift x y z o g k
  have e:3*(g+1)+k=(3*g+k)+1+1+1:=by omega
  have e2:(x::y::z::o).getD (3*(g+1)+k) 0=o.getD (3*g+k) 0:=by
   rw [e,List.getD_cons_succ,List.getD_cons_succ,List.getD_cons_succ]
  have e3:3*(g+1)+k<(x::y::z::o).length↔3*g+k<o.length:=by simp only [List.length_cons];omega
  constructor
  ·rw [v3,v3,h1,e2];simp only [e3]
  ·rw [n3,n3,h2];simp only [e3]
def w3 (x y z:UInt8):Int:=(((0*256+(x.toNat:Int))*256+(y.toNat:Int))*256+(z.toNat:Int))
theorem grp_first (x y z:UInt8) (o:List UInt8):grp (x::y::z::o) 0=sgs6 (w3 x y z) 4:=by
 have h1:v3 (x::y::z::o) (3*0) 3=w3 x y z:=by
  rw [v3,if_pos (by simp only [List.length_cons];omega),v3,if_pos (by simp only [List.length_cons];omega),v3,if_pos (by simp only [List.length_cons];omega)];rfl
 have h2:n3 (x::y::z::o) (3*0) 3=3:=by
  rw [n3,if_pos (by simp only [List.length_cons];omega),n3,if_pos (by simp only [List.length_cons];omega),n3,if_pos (by simp only [List.length_cons];omega)];rfl
 rw [grp,h1,h2]
theorem encG_shift (x y z:UInt8) (o:List UInt8):∀ g,encG (x::y::z::o) (g+1)=sgs6 (w3 x y z) 4++encG o g
 | 0=>by rw [encG,encG,grp_first]; simp [encG]
 | g+1=>by
  rw [encG,encG_shift x y z o g,encG,List.append_assoc]
  congr 2
  unfold grp
  rw [(v3_shift x y z o g 3).1,(v3_shift x y z o g 3).2]
theorem enc8_step (x y z:UInt8) (o:List UInt8):enc8 (x::y::z::o)=sgs6 (w3 x y z) 4++enc8 o:=by
 unfold enc8
 rw [show ((x::y::z::o).length+2) / 3=(o.length+2) / 3+1 by simp only [List.length_cons];omega,encG_shift]
theorem enc8_two (x y:UInt8):enc8 [x,y]=sgs6 ((((0*256+(x.toNat:Int))*256+(y.toNat:Int))*256)) 3:=by
 unfold enc8
 rw [show ([x,y].length+2) / 3=0+1 by simp]
 simp only [encG,grp,List.nil_append]
 rfl
theorem enc8_one (x:UInt8):enc8 [x]=sgs6 ((((0*256+(x.toNat:Int))*256)*256)) 2:=by
 unfold enc8
 rw [show ([x].length+2) / 3=0+1 by simp]
 simp only [encG,grp,List.nil_append]
 rfl
theorem sgn_eq (n:Int) (c:UInt8) (h:0≤n∧n<64) (hc:0≤sgI c):sgs.getD n.toNat 0=c↔n=sgI c:=by
 rcases sgI_rng c with h1 | ⟨h1,h2,h3⟩
 ·omega
 ·constructor
  ·intro e
   have:=sgI_at n.toNat oM
   rw [e] at this;omega
  ·intro e;rw [e];exact h3
theorem six_rng (v:Int) (k:Nat):0≤six v k∧six v k<64:=by unfold six;omega
theorem six_at (v:Int) (k:Nat):six v k=v / 2^(18-6*k)%64:=by
 unfold six;rw [Int.fdiv_eq_ediv_of_nonneg _ (Int.le_of_lt (Int.pow_pos dC))]
theorem six0 (v:Int):six v 0=v / 262144%64:=six_at v 0
theorem six1 (v:Int):six v 1=v / 4096%64:=six_at v 1
theorem six2 (v:Int):six v 2=v / 64%64:=six_at v 2
theorem six3 (v:Int):six v 3=v%64:=by rw [six_at];simp
def t0 (a b:Int):Int:=a*4+b / 16
def t1 (b c:Int):Int:=b%16*16+c / 4
def t2 (c d:Int):Int:=c%4*64+d
def u8I (x:Int):UInt8:=UInt8.ofNat x.toNat
theorem u8I_nat {x:Int} (h:0≤x∧x<256):((u8I x).toNat:Int)=x:=u8_of h
theorem sgI_lt (a:UInt8):sgI a<64:=by rcases sgI_rng a with h | h<;>omega
section
variable {a b c d:UInt8} (ha:0≤sgI a) (hb:0≤sgI b)
include ha hb
theorem rd8_2 (r:List UInt8):rd8 (a::b::r) 0 0 []=rd8 r ((sgI a*64+sgI b)%16) 4 [u8I (t0 (sgI a) (sgI b))]:=by
 have la:=sgI_lt a
 have lb:=sgI_lt b
 rw [rd8_low ha dC,show 0+6=4+2 from rfl,rd8_high hb]
 have e1:b8 ((0*64+sgI a)*64+sgI b) 4=u8I (t0 (sgI a) (sgI b)):=by
  unfold b8 u8I t0;congr 2;show _ / (16:Int)=_;omega
 rw [e1]
 congr 1
 show _%(16:Int)=_%16
 omega
theorem rd8_3 (hc:0≤sgI c) (r:List UInt8):rd8 (a::b::c::r) 0 0 []=rd8 r ((sgI b*64+sgI c)%4) 2 [u8I (t0 (sgI a) (sgI b)),u8I (t1 (sgI b) (sgI c))]:=by
 have la:=sgI_lt a
 have lb:=sgI_lt b
 have lc:=sgI_lt c
 rw [rd8_2 ha hb,show 4=2+2 from rfl,rd8_high hc]
 have e1:b8 ((sgI a*64+sgI b)%16*64+sgI c) 2=u8I (t1 (sgI b) (sgI c)):=by
  unfold b8 u8I t1;congr 2;show _ / (4:Int)=_;omega
 rw [e1]
 congr 1
 show _%(4:Int)=_%4
 omega
theorem rd8_4 (hc:0≤sgI c) (hd:0≤sgI d) (r:List UInt8):rd8 (a::b::c::d::r) 0 0 []=rd8 r 0 0 [u8I (t0 (sgI a) (sgI b)),u8I (t1 (sgI b) (sgI c)),u8I (t2 (sgI c) (sgI d))]:=by
 have la:=sgI_lt a
 have lb:=sgI_lt b
 have lc:=sgI_lt c
 have ld:=sgI_lt d
 rw [rd8_3 ha hb hc,show 2=0+2 from rfl,rd8_high hd]
 have e1:b8 ((sgI b*64+sgI c)%4*64+sgI d) 0=u8I (t2 (sgI c) (sgI d)):=by
  unfold b8 u8I t2;congr 2;show _ / (1:Int)=_;omega
 rw [e1]
 congr 1
 show _%(1:Int)=_
 omega
end
theorem sgs6_4 (v:Int):sgs6 v 4=[sgn6 v 0,sgn6 v 1,sgn6 v 2,sgn6 v 3]:=rfl
theorem sgs6_3 (v:Int):sgs6 v 3=[sgn6 v 0,sgn6 v 1,sgn6 v 2]:=rfl
theorem sgs6_2 (v:Int):sgs6 v 2=[sgn6 v 0,sgn6 v 1]:=rfl
theorem sgn6_eq (v:Int) (k:Nat) (c:UInt8) (hc:0≤sgI c):sgn6 v k=c↔six v k=sgI c:=sgn_eq _ _ (six_rng v k) hc
def goodG (g:List UInt8):Bool:=g.all (fun c=>decide (0≤sgI c))&&(g.length != 1&&qB g)
theorem goodG_of {g:List UInt8}:goodG g=true↔sgnAll g∧g.length≠1∧qB g=true:=by
 unfold goodG sgnAll
 simp only [Bool.and_eq_true,List.all_eq_true,decide_eq_true_eq,bne_iff_ne,ne_eq]
 constructor
 ·rintro ⟨h,h1,h2⟩
  refine ⟨fun j hj => ?_,h1,h2⟩
  have:g.getD j 0∈g:=by
   rw [List.getD_eq_getElem?_getD,List.getElem?_eq_getElem hj];exact List.getElem_mem hj
  exact h _ this
 ·rintro ⟨h,h1,h2⟩
  refine ⟨fun c hc => ?_,h1,h2⟩
  obtain ⟨j,hj,rfl⟩:=List.mem_iff_getElem.1 hc
  have:=h j hj
  rw [List.getD_eq_getElem?_getD,List.getElem?_eq_getElem hj] at this
  exact this
theorem rd8_bad2:∀ (r:List UInt8) (v:Int) (bits:Nat) (out:List UInt8),(∃ c∈r,sgI c<0)→rd8 r v bits out=none
 | [],_,_,_,h=>by obtain ⟨c,hc,_⟩:=h; cases hc
 | c::r,v,bits,out,h=>by
  unfold rd8
  split
  ·rfl
  ·have:∃ c∈r,sgI c<0:=by
    obtain ⟨x,hx,hlt⟩:=h
    rcases List.mem_cons.1 hx with rfl | hx
    ·exact absurd hlt aS
    ·exact ⟨x,hx,hlt⟩
   split
   ·exact rd8_bad2 r _ _ _ this
   ·exact rd8_bad2 r _ _ _ this
theorem bad_in {g:List UInt8} (h:¬ (g.all (fun c=>decide (0≤sgI c))=true)):∃ c∈g,sgI c<0:=by
 simp only [List.all_eq_true,decide_eq_true_eq] at h
 exact Classical.byContradiction fun hn=>h fun c hc=>Classical.byContradiction fun h2=>hn ⟨c,hc,by omega⟩
theorem dec8_step (s:List UInt8) (h:0<s.length):dec8 s=if goodG (s.take 4)=true then (dec8 (s.drop 4)).map (outB (s.take 4)++·) else none:=by
 by_cases hall:(s.take 4).all (fun c=>decide (0≤sgI c))=true
 ·match s,h with
  | [a],_ =>
   have ha:0≤sgI a:=by simpa using hall
   have:goodG [a]=false:=by simp [goodG]
   rw [show ([a]:List UInt8).take 4=[a] from rfl,this]
   unfold dec8
   rw [rd8_low ha dC]
   simp [rd8,enc8,encG]
  | [a,b],_ =>
   have hab:0≤sgI a∧0≤sgI b:=by simpa using hall
   have la:=sgI_lt a
   have lb:=sgI_lt b
   have e1:dec8 [a,b]=if enc8 [u8I (t0 (sgI a) (sgI b))]=[a,b] then some [u8I (t0 (sgI a) (sgI b))] else none:=by
    unfold dec8;rw [rd8_2 hab.1 hab.2];rfl
   have hx:0≤t0 (sgI a) (sgI b)∧t0 (sgI a) (sgI b)<256:=by unfold t0;omega
   have ho:outB [a,b]=[u8I (t0 (sgI a) (sgI b))]:=rfl
   have e2:enc8 [u8I (t0 (sgI a) (sgI b))]=[a,b]↔goodG [a,b]=true:=by
    rw [enc8_one,sgs6_2,u8I_nat hx,goodG_of]
    simp only [List.cons.injEq,and_true,sgn6_eq _ _ _ hab.1,sgn6_eq _ _ _ hab.2,six0,six1]
    have q:qB [a,b]=((t0 (sgI a) (sgI b) / 4==sgI a)&&((t0 (sgI a) (sgI b)%4*16+0 / 16==sgI b)&&(((0:Int)%16*4+0 / 64==0)&&(((0:Int)%64==0)&&true)))):=by
     unfold qB
     rw [ho]
     have:by3 [u8I (t0 (sgI a) (sgI b))] 0=t0 (sgI a) (sgI b):=u8I_nat hx
     rw [this];rfl
    rw [q]
    simp only [Bool.and_eq_true,beq_iff_eq,Bool.and_true]
    have sa:sgnAll [a,b]:=fun j hj=>by
     have:j=0∨j=1:=by simp at hj;omega
     rcases this with rfl | rfl
     ·exact hab.1
     ·exact hab.2
    unfold t0 at hx ⊢
    constructor
    ·intro hh;exact ⟨sa,by simp,by omega,by omega,by omega⟩
    ·rintro ⟨_,_,h1,h2,_⟩;constructor<;>omega
   rw [show ([a,b]:List UInt8).take 4=[a,b] from rfl,e1,ho]
   by_cases hg:goodG [a,b]=true
   ·rw [if_pos hg,if_pos (e2.2 hg)];rfl
   ·rw [if_neg hg,if_neg (fun h=>hg (e2.1 h))]
  | [a,b,c],_ =>
   have hab:0≤sgI a∧0≤sgI b∧0≤sgI c:=by simpa using hall
   obtain ⟨ha,hb,hc⟩:=hab
   have la:=sgI_lt a
   have lb:=sgI_lt b
   have lc:=sgI_lt c
   have e1:dec8 [a,b,c]=if enc8 [u8I (t0 (sgI a) (sgI b)),u8I (t1 (sgI b) (sgI c))]=[a,b,c] then some [u8I (t0 (sgI a) (sgI b)),u8I (t1 (sgI b) (sgI c))] else none:=by
    unfold dec8;rw [rd8_3 ha hb hc];rfl
   have hx:0≤t0 (sgI a) (sgI b)∧t0 (sgI a) (sgI b)<256:=by unfold t0;omega
   have hy:0≤t1 (sgI b) (sgI c)∧t1 (sgI b) (sgI c)<256:=by unfold t1;omega
   have ho:outB [a,b,c]=[u8I (t0 (sgI a) (sgI b)),u8I (t1 (sgI b) (sgI c))]:=rfl
   have e2:enc8 [u8I (t0 (sgI a) (sgI b)),u8I (t1 (sgI b) (sgI c))]=[a,b,c]↔goodG [a,b,c]=true:=by
    rw [enc8_two,sgs6_3,u8I_nat hx,u8I_nat hy,goodG_of]
    simp only [List.cons.injEq,and_true,sgn6_eq _ _ _ ha,sgn6_eq _ _ _ hb,sgn6_eq _ _ _ hc,six0,six1,six2]
    have q:qB [a,b,c]=((t0 (sgI a) (sgI b) / 4==sgI a)&&((t0 (sgI a) (sgI b)%4*16+t1 (sgI b) (sgI c) / 16==sgI b)&&((t1 (sgI b) (sgI c)%16*4+0 / 64==sgI c)&&(((0:Int)%64==0)&&true)))):=by
     unfold qB
     rw [ho]
     have e1:by3 [u8I (t0 (sgI a) (sgI b)),u8I (t1 (sgI b) (sgI c))] 0=t0 (sgI a) (sgI b):=u8I_nat hx
     have e2:by3 [u8I (t0 (sgI a) (sgI b)),u8I (t1 (sgI b) (sgI c))] 1=t1 (sgI b) (sgI c):=u8I_nat hy
     rw [e1,e2];rfl
    rw [q]
    simp only [Bool.and_eq_true,beq_iff_eq,Bool.and_true]
    have sa:sgnAll [a,b,c]:=fun j hj=>by
     have:j=0∨j=1∨j=2:=by simp at hj;omega
     rcases this with rfl | rfl | rfl
     ·exact ha
     ·exact hb
     ·exact hc
    unfold t0 t1 at *
    constructor
    ·intro hh;exact ⟨sa,by simp,by omega,by omega,by omega,by omega⟩
    ·rintro ⟨_,_,h1,h2,h3,_⟩;refine ⟨?_,?_,?_⟩<;>omega
   rw [show ([a,b,c]:List UInt8).take 4=[a,b,c] from rfl,e1,ho]
   by_cases hg:goodG [a,b,c]=true
   ·rw [if_pos hg,if_pos (e2.2 hg)];rfl
   ·rw [if_neg hg,if_neg (fun h=>hg (e2.1 h))]
  | a::b::c::d::r,_ =>
   have hab:0≤sgI a∧0≤sgI b∧0≤sgI c∧0≤sgI d:=by simpa using hall
   obtain ⟨ha,hb,hc,hd⟩:=hab
   have la:=sgI_lt a
   have lb:=sgI_lt b
   have lc:=sgI_lt c
   have ld:=sgI_lt d
   have hx:0≤t0 (sgI a) (sgI b)∧t0 (sgI a) (sgI b)<256:=by unfold t0;omega
   have hy:0≤t1 (sgI b) (sgI c)∧t1 (sgI b) (sgI c)<256:=by unfold t1;omega
   have hz:0≤t2 (sgI c) (sgI d)∧t2 (sgI c) (sgI d)<256:=by unfold t2;omega
   have ho:outB [a,b,c,d]=[u8I (t0 (sgI a) (sgI b)),u8I (t1 (sgI b) (sgI c)),u8I (t2 (sgI c) (sgI d))]:=rfl
   have hg:goodG [a,b,c,d]=true:=by
    rw [goodG_of]
    refine ⟨fun j hj => ?_,by simp,?_⟩
    ·have:j=0∨j=1∨j=2∨j=3:=by simp at hj;omega
     rcases this with rfl | rfl | rfl | rfl
     ·exact ha
     ·exact hb
     ·exact hc
     ·exact hd
    ·have q:qB [a,b,c,d]=((t0 (sgI a) (sgI b) / 4==sgI a)&&((t0 (sgI a) (sgI b)%4*16+t1 (sgI b) (sgI c) / 16==sgI b)&&((t1 (sgI b) (sgI c)%16*4+t2 (sgI c) (sgI d) / 64==sgI c)&&((t2 (sgI c) (sgI d)%64==sgI d)&&true)))):=by
      unfold qB
      rw [ho]
      have e1:by3 [u8I (t0 (sgI a) (sgI b)),u8I (t1 (sgI b) (sgI c)),u8I (t2 (sgI c) (sgI d))] 0=t0 (sgI a) (sgI b):=u8I_nat hx
      have e2:by3 [u8I (t0 (sgI a) (sgI b)),u8I (t1 (sgI b) (sgI c)),u8I (t2 (sgI c) (sgI d))] 1=t1 (sgI b) (sgI c):=u8I_nat hy
      have e3:by3 [u8I (t0 (sgI a) (sgI b)),u8I (t1 (sgI b) (sgI c)),u8I (t2 (sgI c) (sgI d))] 2=t2 (sgI c) (sgI d):=u8I_nat hz
      rw [e1,e2,e3];rfl
     rw [q]
     simp only [Bool.and_eq_true,beq_iff_eq,Bool.and_true]
     unfold t0 t1 t2
     omega
   have hw:sgs6 (w3 (u8I (t0 (sgI a) (sgI b))) (u8I (t1 (sgI b) (sgI c))) (u8I (t2 (sgI c) (sgI d)))) 4=[a,b,c,d]:=by
    rw [w3,u8I_nat hx,u8I_nat hy,u8I_nat hz,sgs6_4]
    simp only [List.cons.injEq,and_true,sgn6_eq _ _ _ ha,sgn6_eq _ _ _ hb,sgn6_eq _ _ _ hc,sgn6_eq _ _ _ hd,six0,six1,six2,six3]
    unfold t0 t1 t2
    omega
   rw [show (a::b::c::d::r).take 4=[a,b,c,d] from rfl,show (a::b::c::d::r).drop 4=r from rfl,if_pos hg,ho]
   unfold dec8
   rw [rd8_4 ha hb hc hd,rd8_acc]
   cases rd8 r 0 0 [] with
   | none=>rfl
   | some o =>
    simp only [Option.map_some]
    rw [show [u8I (t0 (sgI a) (sgI b)),u8I (t1 (sgI b) (sgI c)),u8I (t2 (sgI c) (sgI d))]++o=u8I (t0 (sgI a) (sgI b))::u8I (t1 (sgI b) (sgI c))::u8I (t2 (sgI c) (sgI d))::o from rfl,enc8_step,hw]
    have hcons:([a,b,c,d]++enc8 o=a::b::c::d::r)↔enc8 o=r:=by simp
    by_cases he:enc8 o=r
    ·rw [if_pos (hcons.2 he),if_pos he];rfl
    ·rw [if_neg (fun h=>he (hcons.1 h)),if_neg he];rfl
 ·rw [if_neg (fun h=>hall (by unfold goodG at h;simp only [Bool.and_eq_true] at h;exact h.1))]
  unfold dec8
  obtain ⟨c,hc,hlt⟩:=bad_in hall
  rw [rd8_bad2 s 0 0 [] ⟨c,List.mem_of_mem_take hc,hlt⟩]
end Go.Proofs.Tw
end
section
open Go Go.Sv Go.RowKit
namespace Go.Proofs.Tw
attribute [local irreducible] Wp FinQ resV Ent Pur Go.Sv.Fn Sat0
set_option maxRecDepth 100000
set_option maxHeartbeats 4000000
variable {G:Nat→Option (List Cell)} [Back G]
def d64Inv:List UInt8×Option (Nat×List UInt8)→St
 | (r,none)=>⟨[(0,.v (.c (.str r))),(4,.v (.c .nilsl))],[],48⟩
 | (r,some (n,l))=>⟨[(0,.v (.c (.str r))),(4,.v (.c (.row 1 40 0 n)))],[(40,.row 5 1 n (bytesF l))],48⟩
def d64F (s:List UInt8):List UInt8×Option (Nat×List UInt8)→Prop
 | (r,none)=>r=s
 | (r,some (n,l))=>n=l.length∧0<n∧n+r.length≤s.length∧dec8 s=(dec8 r).map (l++·)
theorem take_min4 (r:List UInt8):List.drop 0 (List.take (min 4 r.length) r)=r.take 4:=by
 rw [List.drop_zero,← List.take_take,List.take_length]
theorem drop_min4 (r:List UInt8):List.drop (min 4 r.length) (List.take r.length r)=r.drop 4:=by
 rw [List.take_length]
 by_cases h:4≤r.length
 ·rw [Nat.min_eq_left h]
 ·rw [Nat.min_eq_right oM,List.drop_length,List.drop_eq_nil_of_le oM]
theorem decR_none {s:List UInt8} (h:dec8 s=none):decR s=[.c .nilsl,.c (.int .i64 3)]:=by unfold decR;rw [h]
theorem decR_some {s o:List UInt8} (h:dec8 s=some o):decR s=[.c (slB o),.c (.int .i64 0)]:=by unfold decR;rw [h]
theorem dec8_nil:dec8 []=some []:=rfl
theorem part_three (g:List UInt8) (h0:0<g.length) (h4:g.length≤4):(goodG g=true∧0<(outB g).length∧(outB g).length<g.length∧Pur Tryz.prog G 148 [.c (.str g)] [.c (.sl 1 (outB g).length (bytesF (outB g))),.c (.bool true)])∨(goodG g≠true∧∃ c,c.flat=true∧Pur Tryz.prog G 148 [.c (.str g)] [.c c,.c (.bool false)]):=by
 by_cases ha:sgnAll g
 ·have c:=part_good (G:=G) g h0 h4 ha
  have hl:=outB_len g h4
  unfold partG at c
  rw [← hl] at c
  by_cases h1:g.length=1
  ·rw [if_pos h1] at c
   exact .inr ⟨fun h=>(goodG_of.1 h).2.1 h1,_,rfl,c⟩
  ·rw [if_neg h1] at c
   cases hq:qB g
   ·rw [hq] at c
    exact .inr ⟨fun h=>(by rw [(goodG_of.1 h).2.2] at hq;cases hq),_,rfl,c⟩
   ·rw [hq] at c
    exact .inl ⟨goodG_of.2 ⟨ha,h1,hq⟩,by omega,by omega,c⟩
 ·exact .inr ⟨fun h=>ha (goodG_of.1 h).1,_,rfl,part_bad g h0 h4 ha⟩
theorem dec64_ok (s:List UInt8) (hl:s.length≤30000000000000):Pur Tryz.prog G 94 [.c (.str s)] (decR s):=by
 refine zp Tryz.func94 ?_
 refine z0 [] [] ?_
 refine zl d64Inv (d64F s) (fun x=>x.1.length) (s,none) rfl ?_
 rintro ⟨r,_ | ⟨n,l⟩⟩ L hf again
 ·obtain rfl:r=s:=hf
  by_cases hr:r=[]
  ·have ht:(!(r==[]))=false:=by rw [hr];rfl
   rw [decR_some (hr▸dec8_nil:dec8 r=some [])]
   clear hl
   refine zg [] [false] [(!r==[])=false] (oN aS) ?_
   exact zr
  ·have ht:(!(r==[]))=true:=by simp [hr]
   have h0:0<r.length:=List.length_pos_iff.2 hr
   have hst:=dec8_step r h0
   have htl:(r.take 4).length=min 4 r.length:=List.length_take
   have hdl:(r.drop 4).length=r.length-4:=List.length_drop
   have e0:EqvD (.c (.int .i64 (if (r.length:Int)<4 then (r.length:Int) else 4))) (.c (.int .i64 ((min 4 r.length:Nat):Int))):=eqvD_of (by
    have:(if (r.length:Int)<4 then (r.length:Int) else 4)=((min 4 r.length:Nat):Int):=by split<;>omega
    rw [this])
   have e1:EqvD (.c (.str (List.drop 0 (List.take (min 4 r.length) r)))) (.c (.str (r.take 4))):=eqvD_of (by rw [take_min4])
   have e2:EqvD (.c (.str (List.drop (min 4 r.length) (List.take r.length r)))) (.c (.str (r.drop 4))):=eqvD_of (by rw [drop_min4])
   rcases part_three (G:=G) (r.take 4) oM oM with ⟨hg,ho0,ho1,c1⟩ | ⟨hg,c,hc,c1⟩
   ·rw [if_pos hg] at hst
    generalize outB (r.take 4)=o at hst ho0 ho1 c1
    have e3:BlkEqv (.row 5 1 (0+o.length) (catF 0 (fun _ _ => .nilif) (bytesF o))) (.row 5 1 (0+o.length) (bytesF o)):=BlkEqv.row_ext rfl fun i hi j hj=>rfl
    have hnx:d64F r (r.drop 4,some (0+o.length,o)):=⟨by omega,by omega,by omega,hst⟩
    clear hst hr
    refine zg [(3,{fm:=[(2,.c (.int .i64 ((min 4 r.length:Nat):Int)))]}),(4,{cs:=[(3,pc c1)],fm:=[(2,.c (.str (r.take 4)))]}),(7,{bs:=[(2,.row 5 1 (0+o.length) (bytesF o))],fm:=[(5,.c (.str (r.drop 4)))]})] [true,false] [(!r==[])=true,EqvI (.c (.int .i64 (if (r.length:Int)<(4:Int) then (r.length:Int) else (4:Int)))) (.c (.int .i64 (↑(min (4:Nat) r.length):Int))),EqvD (.c (.int .i64 (if (r.length:Int)<(4:Int) then (r.length:Int) else (4:Int)))) (.c (.int .i64 (↑(min (4:Nat) r.length):Int))),EqvI (.c (.str (List.drop (0:Nat) (List.take (Int.ofNat (min (4:Nat) r.length)).toNat r)))) (.c (.str (List.take (4:Nat) r))),EqvD (.c (.str (List.drop (0:Nat) (List.take (Int.ofNat (min (4:Nat) r.length)).toNat r)))) (.c (.str (List.take (4:Nat) r))),(0:Int)≤Int.ofNat (0)∧Int.ofNat (0)≤Int.ofNat (min (4:Nat) r.length)∧Int.ofNat (min (4:Nat) r.length)≤(r.length:Int),(!true)=false,(0+o.length)*1≤140737488355328,BlkEqv (.row 5 1 (0+o.length) (catF 0 (fun (x x_1:Nat) => .nilif) (bytesF o))) (.row 5 1 (0+o.length) (bytesF o)),EqvI (.c (.str (List.drop (Int.ofNat (min (4:Nat) r.length)).toNat (List.take (Int.ofNat r.length).toNat r)))) (.c (.str (List.drop (4:Nat) r))),EqvD (.c (.str (List.drop (Int.ofNat (min (4:Nat) r.length)).toNat (List.take (Int.ofNat r.length).toNat r)))) (.c (.str (List.drop (4:Nat) r))),(0:Int)≤Int.ofNat (min (4:Nat) r.length)∧Int.ofNat (min (4:Nat) r.length)≤Int.ofNat r.length∧Int.ofNat r.length≤(r.length:Int)] ⟨aS,fun _ _=>trivial,aS,fun _ _=>trivial,aS,⟨dC,⟨(by simp;done),sO⟩⟩,rfl,oM,aS,fun _ _=>trivial,aS,⟨(by simp;done),⟨sO,(by simp;done)⟩⟩⟩ ?_
    exact za [(40,352)] (again _ (r.drop 4,some (0+o.length,o)) aS (by simp only;omega))
   ·rw [if_neg hg] at hst
    rw [decR_none hst]
    clear hst hr hg
    refine zg [(3,{fm:=[(2,.c (.int .i64 ((min 4 r.length:Nat):Int)))]}),(4,{cs:=[(3,pc c1)],fm:=[(2,.c (.str (r.take 4)))]})] [true,true] [(!r==[])=true,EqvI (.c (.int .i64 (if (r.length:Int)<(4:Int) then (r.length:Int) else (4:Int)))) (.c (.int .i64 (↑(min (4:Nat) r.length):Int))),EqvD (.c (.int .i64 (if (r.length:Int)<(4:Int) then (r.length:Int) else (4:Int)))) (.c (.int .i64 (↑(min (4:Nat) r.length):Int))),EqvI (.c (.str (List.drop (0:Nat) (List.take (Int.ofNat (min (4:Nat) r.length)).toNat r)))) (.c (.str (List.take (4:Nat) r))),EqvD (.c (.str (List.drop (0:Nat) (List.take (Int.ofNat (min (4:Nat) r.length)).toNat r)))) (.c (.str (List.take (4:Nat) r))),(0:Int)≤Int.ofNat (0)∧Int.ofNat (0)≤Int.ofNat (min (4:Nat) r.length)∧Int.ofNat (min (4:Nat) r.length)≤(r.length:Int),(!false)=true] ⟨aS,fun _ _=>trivial,aS,fun _ _=>trivial,aS,⟨dC,⟨(by simp;done),sO⟩⟩,rfl⟩ ?_
    exact zr
 ·obtain ⟨hn,hn0,hnl,hq⟩:=hf
  by_cases hr:r=[]
  ·have ht:(!(r==[]))=false:=by rw [hr];rfl
   rw [hr,dec8_nil] at hq
   have hq:dec8 s=some l:=by rw [hq];simp
   rw [decR_some hq,slB_cons oM]
   clear hl hq
   refine zg [] [false] [(!r==[])=false] (oN aS) ?_
   refine Wp.ent' kR (Ent.pubT (t:=2) (e:=5) (sz:=(1:Nat)) (id:=40) (off:=(0:Nat)) (m:=n) (n:=n) (f:=bytesF l) (m':=l.length) (f':=bytesF l) kR kR oM aS (fun i _ j _=>by rw [Nat.zero_add]) rfl) ?_
   exact zr
  ·have ht:(!(r==[]))=true:=by simp [hr]
   have h0:0<r.length:=List.length_pos_iff.2 hr
   have hst:=dec8_step r h0
   have htl:(r.take 4).length=min 4 r.length:=List.length_take
   have hdl:(r.drop 4).length=r.length-4:=List.length_drop
   have e0:EqvD (.c (.int .i64 (if (r.length:Int)<4 then (r.length:Int) else 4))) (.c (.int .i64 ((min 4 r.length:Nat):Int))):=eqvD_of (by
    have:(if (r.length:Int)<4 then (r.length:Int) else 4)=((min 4 r.length:Nat):Int):=by split<;>omega
    rw [this])
   have e1:EqvD (.c (.str (List.drop 0 (List.take (min 4 r.length) r)))) (.c (.str (r.take 4))):=eqvD_of (by rw [take_min4])
   have e2:EqvD (.c (.str (List.drop (min 4 r.length) (List.take r.length r)))) (.c (.str (r.drop 4))):=eqvD_of (by rw [drop_min4])
   rcases part_three (G:=G) (r.take 4) oM oM with ⟨hg,ho0,ho1,c1⟩ | ⟨hg,c,hc,c1⟩
   ·rw [if_pos hg] at hst
    generalize outB (r.take 4)=o at hst ho0 ho1 c1
    have e3:BlkEqv (.row 5 1 (n+o.length) (catF n (bytesF l) (bytesF o))) (.row 5 1 (n+o.length) (bytesF (l++o))):=BlkEqv.row_ext rfl fun i hi j hj=>by rw [catF_bytes l o hn]
    have hnx:d64F s (r.drop 4,some (n+o.length,l++o)):=⟨by simp [hn],by omega,by omega,by rw [hq,hst];cases dec8 (r.drop 4)<;>simp⟩
    clear hst hr hq
    refine zg [(3,{fm:=[(2,.c (.int .i64 ((min 4 r.length:Nat):Int)))]}),(4,{cs:=[(3,pc c1)],fm:=[(2,.c (.str (r.take 4)))]}),(7,{bs:=[(2,.row 5 1 (n+o.length) (bytesF (l++o)))],fm:=[(5,.c (.str (r.drop 4)))]})] [true,false] [(!r==[])=true,EqvI (.c (.int .i64 (if (r.length:Int)<(4:Int) then (r.length:Int) else (4:Int)))) (.c (.int .i64 (↑(min (4:Nat) r.length):Int))),EqvD (.c (.int .i64 (if (r.length:Int)<(4:Int) then (r.length:Int) else (4:Int)))) (.c (.int .i64 (↑(min (4:Nat) r.length):Int))),EqvI (.c (.str (List.drop (0:Nat) (List.take (Int.ofNat (min (4:Nat) r.length)).toNat r)))) (.c (.str (List.take (4:Nat) r))),EqvD (.c (.str (List.drop (0:Nat) (List.take (Int.ofNat (min (4:Nat) r.length)).toNat r)))) (.c (.str (List.take (4:Nat) r))),(0:Int)≤Int.ofNat (0)∧Int.ofNat (0)≤Int.ofNat (min (4:Nat) r.length)∧Int.ofNat (min (4:Nat) r.length)≤(r.length:Int),(!true)=false,(n+o.length)*1≤140737488355328,BlkEqv (.row 5 1 (n+o.length) (catF n (bytesF l) (bytesF o))) (.row 5 1 (n+o.length) (bytesF (l++o))),n≤n,EqvI (.c (.str (List.drop (Int.ofNat (min (4:Nat) r.length)).toNat (List.take (Int.ofNat r.length).toNat r)))) (.c (.str (List.drop (4:Nat) r))),EqvD (.c (.str (List.drop (Int.ofNat (min (4:Nat) r.length)).toNat (List.take (Int.ofNat r.length).toNat r)))) (.c (.str (List.drop (4:Nat) r))),(0:Int)≤Int.ofNat (min (4:Nat) r.length)∧Int.ofNat (min (4:Nat) r.length)≤Int.ofNat r.length∧Int.ofNat r.length≤(r.length:Int)] ⟨aS,fun _ _=>trivial,aS,fun _ _=>trivial,aS,⟨dC,⟨(by simp;done),sO⟩⟩,rfl,oM,aS,oM,fun _ _=>trivial,aS,⟨(by simp;done),⟨sO,(by simp;done)⟩⟩⟩ ?_
    exact za [(40,352)] (again _ (r.drop 4,some (n+o.length,l++o)) aS (by simp only;omega))
   ·rw [if_neg hg] at hst
    have hq:dec8 s=none:=by rw [hq,hst];rfl
    rw [decR_none hq]
    clear hst hr hg hq
    refine zg [(3,{fm:=[(2,.c (.int .i64 ((min 4 r.length:Nat):Int)))]}),(4,{cs:=[(3,pc c1)],fm:=[(2,.c (.str (r.take 4)))]})] [true,true] [(!r==[])=true,EqvI (.c (.int .i64 (if (r.length:Int)<(4:Int) then (r.length:Int) else (4:Int)))) (.c (.int .i64 (↑(min (4:Nat) r.length):Int))),EqvD (.c (.int .i64 (if (r.length:Int)<(4:Int) then (r.length:Int) else (4:Int)))) (.c (.int .i64 (↑(min (4:Nat) r.length):Int))),EqvI (.c (.str (List.drop (0:Nat) (List.take (Int.ofNat (min (4:Nat) r.length)).toNat r)))) (.c (.str (List.take (4:Nat) r))),EqvD (.c (.str (List.drop (0:Nat) (List.take (Int.ofNat (min (4:Nat) r.length)).toNat r)))) (.c (.str (List.take (4:Nat) r))),(0:Int)≤Int.ofNat (0)∧Int.ofNat (0)≤Int.ofNat (min (4:Nat) r.length)∧Int.ofNat (min (4:Nat) r.length)≤(r.length:Int),(!false)=true] ⟨aS,fun _ _=>trivial,aS,fun _ _=>trivial,aS,⟨dC,⟨(by simp;done),sO⟩⟩,rfl⟩ ?_
    exact zr
def beN (b:List UInt8) (p:Nat):Nat→Int
 | 0=>0
 | i+1=>beN b p i*256+((b.getD (p+i) 0).toNat:Int)
theorem beN_rng (b:List UInt8) (p:Nat):∀ i,i≤4→0≤beN b p i∧beN b p i<256^i
 | 0,_=>⟨Int.le_refl 0,Int.zero_lt_one⟩
 | k+1,h=>by
  have:=beN_rng b p k oM
  have hc:=UInt8.toNat_lt (b.getD (p+k) 0)
  have hp:(256:Int)^(k+1)=256^k*256:=Int.pow_succ _ _
  unfold beN;rw [hp];omega
theorem beN_big (b:List UInt8) (p i:Nat) (h:i≤4):0≤beN b p i∧beN b p i<4294967296:=by
 have:=beN_rng b p i h
 have:i=0∨i=1∨i=2∨i=3∨i=4:=by omega
 rcases this with rfl | rfl | rfl | rfl | rfl<;>simp at *<;>omega
def rB (b:List UInt8) (p:Nat) (l e:Int):Blk := .box 232 [.sl 1 b.length (bytesF b),.int .i64 (p:Int),.int .i64 l,.int .i64 e]
theorem wrapU (c:UInt8):EqvD (.c (.int .i64 (IntKind.i64.wrap ((c.toNat:Nat):Int)))) (.c (.int .i64 (c.toNat:Int))):=eqvD_of (by rw [wrap_b])
theorem numR_ok (b:List UInt8) (p:Nat) (l:Int) (n:Nat) (hb:b.length≤30000000000000) (hn:n≤4) (hp:p+n≤b.length):FnB Tryz.prog G 260 [rB b p l 0] [.c (.ptr 0 0),.c (.int .i64 (n:Int))] [.c (.int .i64 (beN b p n))] [(0,rB b (p+n) l 0)]:=by
 refine zf Tryz.func260 ?_
 have ht0:(bif (0:Int)==0 then decide ((n:Int)>(b.length:Int)-(p:Int)) else false)=false:=by simp;omega
 refine zg [] [false] [((0:Int)==(0:Int))=true→inR .i64 ((b.length:Int)-(p:Int)),(bif (0:Int)==0 then decide ((n:Int)>(b.length:Int)-(p:Int)) else false)=false] ⟨fun _=>i6,ht0⟩ ?_
 refine zl (fun (k:Nat)=>⟨[(0,.v (.c (.ptr (0:Nat) (0:Nat)))),(1,.v (.c (.int .i64 (↑n:Int)))),(5,.v (.c (.int .i64 (beN b p k)))),(6,.v (.c (.int .i64 (k:Int))))],[(0,rB b p l 0)],353⟩) (fun k=>k≤n) (fun k=>n-k) 0 (Nat.zero_le _) ?_
 intro k L hk again
 have hr:=beN_big b p k oM
 rcases Nat.lt_or_ge k n with hlt | hge
 ·have ht1:(bif decide ((k:Int)<(n:Int)) then (0:Int)==0 else false)=true:=by rw [decide_eq_true oM];rfl
  have e1:=wrapU (b.getD (p+k) 0)
  have hc:=UInt8.toNat_lt (b.getD (p+k) 0)
  have hr2:=beN_big b p (k+1) oM
  rw [beN] at hr2
  refine zg [(7,{fm:=[(11,.c (.int .i64 ((p+k:Nat):Int))),(14,.c (.int .i64 ((b.getD (p+k) 0).toNat:Int)))]})] [true] [(bif decide ((k:Int)<(n:Int)) then (0:Int)==(0:Int) else false)=true,inR .i64 (beN b p k*256),EqvI (.c (.int .i64 ((p:Int)+(k:Int)))) (.c (.int .i64 (↑(p+k):Int))),EqvD (.c (.int .i64 ((p:Int)+(k:Int)))) (.c (.int .i64 (↑(p+k):Int))),inR .i64 ((p:Int)+(k:Int)),(0:Int)≤(↑(p+k):Int)∧(↑(p+k):Int)<(b.length:Int),EqvI (.c (.int .i64 (IntKind.i64.wrap (↑(b.getD (p+k) (0:UInt8)).toNat:Int)))) (.c (.int .i64 (↑(b.getD (p+k) (0:UInt8)).toNat:Int))),EqvD (.c (.int .i64 (IntKind.i64.wrap (↑(b.getD (p+k) (0:UInt8)).toNat:Int)))) (.c (.int .i64 (↑(b.getD (p+k) (0:UInt8)).toNat:Int))),inR .i64 (beN b p k*(256:Int)+(↑(b.getD (p+k) (0:UInt8)).toNat:Int)),inR .i64 ((k:Int)+1)] ⟨aS,i6,fun _ _=>trivial,fun _ _ _ h=>h,i6,oM,fun _ _=>trivial,aS,i6,i6⟩ ?_
  exact za [] (again _ (k+1) aS oM)
 ·obtain rfl:k=n:=by omega
  have ht1:(bif decide ((k:Int)<(k:Int)) then (0:Int)==0 else false)=false:=by rw [decide_eq_false oM];rfl
  refine zg [] [false] [(bif decide ((k:Int)<(k:Int)) then (0:Int)==(0:Int) else false)=false,inR .i64 ((p:Int)+(k:Int))] ⟨aS,i6⟩ ?_
  exact zb []
theorem numR_short (b:List UInt8) (p:Nat) (l:Int) (n:Nat) (hb:b.length≤30000000000000) (hn:n≤4) (h1:0<n) (hpl:p≤b.length) (hp:b.length<p+n):FnB Tryz.prog G 260 [rB b p l 0] [.c (.ptr 0 0),.c (.int .i64 (n:Int))] [.c (.int .i64 0)] [(0,rB b (p+n) l 1)]:=by
 refine zf Tryz.func260 ?_
 have ht0:(bif (0:Int)==0 then decide ((n:Int)>(b.length:Int)-(p:Int)) else false)=true:=by simp;omega
 refine zg [] [true] [((0:Int)==(0:Int))=true→inR .i64 ((b.length:Int)-(p:Int)),(bif (0:Int)==0 then decide ((n:Int)>(b.length:Int)-(p:Int)) else false)=true] ⟨fun _=>i6,ht0⟩ ?_
 have ht1:(bif decide ((0:Int)<(n:Int)) then (1:Int)==0 else false)=false:=by rw [decide_eq_true oM];rfl
 refine zl (fun (k:Nat)=>⟨[(0,.v (.c (.ptr (0:Nat) (0:Nat)))),(1,.v (.c (.int .i64 (↑n:Int)))),(5,.v (.c (.int .i64 0))),(6,.v (.c (.int .i64 0)))],[(0,rB b p l 1)],500⟩) (fun k=>True) (fun k=>k) 0 trivial ?_
 intro k L _ again
 refine zg [] [false] [(bif decide ((0:Int)<(n:Int)) then (1:Int)==(0:Int) else false)=false,inR .i64 ((p:Int)+(n:Int))] ⟨aS,i6⟩ ?_
 exact zb []
inductive Tm
 | at_ (s:List UInt8)
 | no (n:Nat)
 | one (k:Int) (t:Tm)
 | two (k:Int) (a b:Tm)
structure KT where
 k:Int
 n:Int
 s:List UInt8
 m:Nat
 f:Nat→Nat→Cell
def encK (x:KT):List Cell:=[.int .i64 x.k,.int .i64 x.n,.str x.s,.sl 4 x.m x.f]
def KT.nil:KT:=⟨0,0,[],0,fun _ _ => .nilif⟩
def toK:Tm→KT
 | .at_ s=>⟨1,0,s,0,fun _ _ => .nilif⟩
 | .no n=>⟨2,(n:Int),[],0,fun _ _ => .nilif⟩
 | .one k t=>⟨k,0,[],1,rowF encK .nil [toK t]⟩
 | .two k a b=>⟨k,0,[],2,rowF encK .nil [toK a,toK b]⟩
def rdT (b:List UInt8):Nat→Nat→Nat→Option (Tm×Nat×Nat)
 | 0,_,_=>none
 | f+1,p,left=>if left=0 then none else if b.length≤p then none else
   if (b.getD p 0).toNat=1 then (if b.length<p+1+2 then none else if 1024<(beN b (p+1) 2).toNat then none else if b.length<p+1+2+(beN b (p+1) 2).toNat then none
    else some (.at_ ((b.drop (p+1+2)).take (beN b (p+1) 2).toNat),p+1+2+(beN b (p+1) 2).toNat,left-1))
   else if (b.getD p 0).toNat=2 then (if b.length<p+1+4 then none else if 1073741824<(beN b (p+1) 4).toNat then none else some (.no (beN b (p+1) 4).toNat,p+1+4,left-1))
   else if (b.getD p 0).toNat=3∨(b.getD p 0).toNat=4 then (match rdT b f (p+1) (left-1) with
    | none=>none
    | some (t,p1,l1)=>some (.one ((b.getD p 0).toNat:Int) t,p1,l1))
   else if (b.getD p 0).toNat=5∨(b.getD p 0).toNat=6∨(b.getD p 0).toNat=7 then (match rdT b f (p+1) (left-1) with
    | none=>none
    | some (t,p1,l1)=>match rdT b f p1 l1 with
     | none=>none
     | some (u,p2,l2)=>some (.two ((b.getD p 0).toNat:Int) t u,p2,l2))
   else none
theorem rdT_le (b:List UInt8):∀ f p left t p' l',rdT b f p left=some (t,p',l')→p'≤b.length∧l'≤left
 | 0,_,_,_,_,_,h=>by simp [rdT] at h
 | f+1,p,left,t,p',l',h=>by
  unfold rdT at h
  split at h;· cases h
  split at h;· cases h
  split at h
  ·split at h;· cases h
   split at h;· cases h
   split at h;· cases h
   simp only [Option.some.injEq,Prod.mk.injEq] at h
   omega
  split at h
  ·split at h;· cases h
   split at h;· cases h
   simp only [Option.some.injEq,Prod.mk.injEq] at h
   omega
  split at h
  ·split at h
   ·cases h
   ·rename_i t1 p1 l1 h1
    have:=rdT_le b f _ _ _ _ _ h1
    simp only [Option.some.injEq,Prod.mk.injEq] at h
    omega
  split at h
  ·split at h
   ·cases h
   ·rename_i t1 p1 l1 h1
    have:=rdT_le b f _ _ _ _ _ h1
    split at h
    ·cases h
    ·rename_i t2 p2 l2 h2
     have:=rdT_le b f _ _ _ _ _ h2
     simp only [Option.some.injEq,Prod.mk.injEq] at h
     omega
  ·cases h
def rdOut (r:Option (Tm×Nat×Nat)) (x:KT) (p':Nat) (l' e:Int):Prop:=match r with
 | some (t,p2,l2)=>x=toK t∧p'=p2∧l'=(l2:Int)∧e=0
 | none=>e≠0
theorem kids_D {k n:Int} {s:List UInt8} {f:Nat→Nat→Cell}:EqvD (.agg [.int .i64 k,.int .i64 n,.str s,.nilsl]) (.agg [.int .i64 k,.int .i64 n,.str s,.sl 4 0 f]):=by
 rintro D ρ u ⟨us,e,hs,h⟩
 refine ⟨us,e,hs,fun j x hj => ?_⟩
 have:j=0∨j=1∨j=2∨j=3∨4≤j:=by omega
 rcases this with rfl | rfl | rfl | rfl | h4
 ·exact h 0 x hj
 ·exact h 1 x hj
 ·exact h 2 x hj
 ·obtain ⟨y,hy,hd⟩:=h 3 _ rfl
  simp only [List.getElem?_cons_succ,List.getElem?_cons_zero,Option.some.injEq] at hj
  subst hj
  exact ⟨y,hy,none,0,hd,Nat.le_refl _,Nat.zero_le _,.inl rfl⟩
 ·rw [List.getElem?_eq_none (by simpa using h4)] at hj;cases hj
theorem kids_I {k n:Int} {s:List UInt8} {f:Nat→Nat→Cell}:EqvI (.agg [.int .i64 k,.int .i64 n,.str s,.nilsl]) (.agg [.int .i64 k,.int .i64 n,.str s,.sl 4 0 f]):=by
 rintro S h j x hj
 have:j=0∨j=1∨j=2∨j=3∨4≤j:=by omega
 rcases this with rfl | rfl | rfl | rfl | h4
 ·exact h 0 x hj
 ·exact h 1 x hj
 ·exact h 2 x hj
 ·simp only [List.getElem?_cons_succ,List.getElem?_cons_zero,Option.some.injEq] at hj
  subst hj;trivial
 ·rw [List.getElem?_eq_none (by simpa using h4)] at hj;cases hj
theorem num1 (b:List UInt8) (p:Nat) (l:Int) (hb:b.length≤30000000000000) (hp:p<b.length) {k:Nat} (hk:(b.getD p 0).toNat=k):FnB Tryz.prog G 260 [rB b p l 0] [.c (.ptr 0 0),.c (.int .i64 1)] [.c (.int .i64 (k:Int))] [(0,rB b (p+1) l 0)]:=by
 have:=numR_ok (G:=G) b p l 1 hb dC hp
 rw [show beN b p 1=(k:Int) by rw [← hk];simp [beN]] at this
 exact this
theorem numN (b:List UInt8) (p:Nat) (l:Int) (n:Nat) (hb:b.length≤30000000000000) (hn:n≤4) (hp:p+n≤b.length):FnB Tryz.prog G 260 [rB b p l 0] [.c (.ptr 0 0),.c (.int .i64 (n:Int))] [.c (.int .i64 ((beN b p n).toNat:Int))] [(0,rB b (p+n) l 0)]:=by
 have:=numR_ok (G:=G) b p l n hb hn hp
 rw [show beN b p n=((beN b p n).toNat:Int) by have:=beN_big b p n hn;omega] at this
 exact this
theorem node_deep (b:List UInt8) (f p l:Nat) (hf:f≤16) (hl2:l≤64) (h0:f=0∨l=0):FnB Tryz.prog G 223 [rB b p l 0] [.c (.ptr 0 0),.c (.int .i64 (17-(f:Int)))] [.agg (encK ⟨0,0,[],0,fun _ _ => .nilif⟩)] [(0,rB b p l 4)]:=by
 refine zf Tryz.func223 ?_
 have ht0:(bif (0:Int)==0 then bif decide ((l:Int)<1) then true else decide (17-(f:Int)>16) else false)=true:=by
  rcases h0 with rfl | rfl
  ·cases decide ((l:Int)<1)<;>rfl
  ·rfl
 have eD:=@kids_D 0 0 [] (fun _ _ => .nilif)
 have eI:=@kids_I 0 0 [] (fun _ _ => .nilif)
 refine zg [(5,{fm:=[(0,.agg [.int .i64 0,.int .i64 0,.str [],.sl 4 0 (fun _ _ => .nilif)])]})] [true,true] [(bif (0:Int)==(0:Int) then bif decide ((l:Int)<(1:Int)) then true else decide ((17:Int)-(f:Int)>(16:Int)) else false)=true,((4:Int) != (0:Int))=true,EqvI (.agg [.int .i64 0,.int .i64 0,.str [],.nilsl]) (.agg [.int .i64 0,.int .i64 0,.str [],.sl 4 0 fun (x x_1:Nat) => .nilif]),EqvD (.agg [.int .i64 0,.int .i64 0,.str [],.nilsl]) (.agg [.int .i64 0,.int .i64 0,.str [],.sl 4 0 fun (x x_1:Nat) => .nilif])] ⟨aS,rfl,eqvI_flat _ _ kR,(show EqvD (.agg [.int .i64 (0:Int),.int .i64 (0:Int),.str [],.nilsl]) (.agg [.int .i64 (0:Int),.int .i64 (0:Int),.str [],.sl (4:Nat) (0:Nat) fun (x x_1:Nat) => .nilif]) from aS)⟩ ?_
 exact zb []
theorem node_short (b:List UInt8) (hb:b.length≤30000000000000) (f p l:Nat) (hf:f<16) (hl:0<l) (hl2:l≤64) (hp:p=b.length):FnB Tryz.prog G 223 [rB b p l 0] [.c (.ptr 0 0),.c (.int .i64 (17-((f+1:Nat):Int)))] [.agg (encK ⟨0,0,[],0,fun _ _ => .nilif⟩)] [(0,rB b (p+1) ((l:Int)-1) 1)]:=by
 refine zf Tryz.func223 ?_
 have ht0:(bif (0:Int)==0 then bif decide ((l:Int)<1) then true else decide (17-((f+1:Nat):Int)>16) else false)=false:=by rw [decide_eq_false oM,decide_eq_false oM];rfl
 have c1:=numR_short (G:=G) b p ((l:Int)-1) 1 hb dC dC oM oM
 have eD:=@kids_D 0 0 [] (fun _ _ => .nilif)
 have eI:=@kids_I 0 0 [] (fun _ _ => .nilif)
 refine zg [(36,{fm:=[(0,.agg [.int .i64 0,.int .i64 0,.str [],.sl 4 0 (fun _ _ => .nilif)])]}),(7,{cs:=[(1,cb [0] c1)]})] [false,false,false,false,false,false,false,false,false,false] [(bif (0:Int)==(0:Int) then bif decide ((l:Int)<(1:Int)) then true else decide ((17:Int)-(↑(f+(1:Nat)):Int)>(16:Int)) else false)=false,((0:Int) != (0:Int))=false,inR .i64 ((l:Int)-1),((0:Int)==(1:Int))=false,((0:Int)==(2:Int))=false,((0:Int)==(3:Int))=false,((0:Int)==(4:Int))=false,((0:Int)==(5:Int))=false,((0:Int)==(6:Int))=false,((0:Int)==(7:Int))=false,((1:Int)==(0:Int))=false] ⟨aS,rfl,i6,rfl,rfl,rfl,rfl,rfl,rfl,rfl,rfl⟩ ?_
 refine zl (fun (k:Nat)=>⟨[(0,.v (.c (.ptr (0:Nat) (0:Nat)))),(1,.v (.c (.int .i64 ((17:Int)-(↑(f+(1:Nat)):Int))))),(4,.v (.c (.ptr 1 (0:Nat)))),(5,.v (.c (.ptr (289:Nat) (0:Nat)))),(6,.v (.c (.int .i64 (0:Int)))),(8,.v (.c (.int .i64 (0:Int))))],[(1,.box 64 [.int .i64 (0:Int),.int .i64 (0:Int),.str [],.nilsl]),(289,.box 64 [.int .i64 (0:Int),.int .i64 (0:Int),.str [],.nilsl]),(0,.box 232 [.sl (1:Nat) b.length (bytesF b),.int .i64 (↑(p+(1:Nat)):Int),.int .i64 ((↑l:Int)-(1:Int)),.int .i64 (1:Int)])],961⟩) (fun _=>True) (fun k=>k) 0 trivial ?_ [(1,1),(289,289)]
 intro k L hk again
 refine zg [(36,{fm:=[(0,.agg [.int .i64 0,.int .i64 0,.str [],.sl 4 0 (fun _ _ => .nilif)])]})] [false] [(bif decide ((0:Int)<(0:Int)) then (1:Int)==(0:Int) else false)=false,EqvI (.agg [.int .i64 0,.int .i64 0,.str [],.nilsl]) (.agg [.int .i64 0,.int .i64 0,.str [],.sl 4 0 fun (x x_1:Nat) => .nilif]),EqvD (.agg [.int .i64 0,.int .i64 0,.str [],.nilsl]) (.agg [.int .i64 0,.int .i64 0,.str [],.sl 4 0 fun (x x_1:Nat) => .nilif])] ⟨rfl,eqvI_flat _ _ kR,(show EqvD (.agg [.int .i64 (0:Int),.int .i64 (0:Int),.str [],.nilsl]) (.agg [.int .i64 (0:Int),.int .i64 (0:Int),.str [],.sl (4:Nat) (0:Nat) fun (x x_1:Nat) => .nilif]) from aS)⟩ ?_
 exact zb []
theorem node_a1 (b:List UInt8) (hb:b.length≤30000000000000) (f p l:Nat) (hf:f<16) (hl:0<l) (hl2:l≤64) (hp:p<b.length) (hk:(b.getD p 0).toNat=1) (h2:b.length<p+1+2):FnB Tryz.prog G 223 [rB b p l 0] [.c (.ptr 0 0),.c (.int .i64 (17-((f+1:Nat):Int)))] [.agg (encK ⟨1,0,[],0,fun _ _ => .nilif⟩)] [(0,rB b (p+1+2) ((l:Int)-1) 1)]:=by
 refine zf Tryz.func223 ?_
 have ht0:(bif (0:Int)==0 then bif decide ((l:Int)<1) then true else decide (17-((f+1:Nat):Int)>16) else false)=false:=by rw [decide_eq_false oM,decide_eq_false oM];rfl
 have c1:=num1 (G:=G) b p ((l:Int)-1) hb hp hk
 have c2:=numR_short (G:=G) b (p+1) ((l:Int)-1) 2 hb dC dC oM h2
 have eD:=@kids_D 1 0 [] (fun _ _ => .nilif)
 have eI:=@kids_I 1 0 [] (fun _ _ => .nilif)
 refine zg [(36,{fm:=[(0,.agg [.int .i64 1,.int .i64 0,.str [],.sl 4 0 (fun _ _ => .nilif)])]}),(7,{cs:=[(1,cb [0] c1)]}),(13,{cs:=[(1,cb [0] c2)]})] [false,false,true,false,false,false] [(bif (0:Int)==(0:Int) then bif decide ((l:Int)<(1:Int)) then true else decide ((17:Int)-(↑(f+(1:Nat)):Int)>(16:Int)) else false)=false,((0:Int) != (0:Int))=false,inR .i64 ((l:Int)-1),((↑(1:Nat):Int)==(1:Int))=true,(bif (1:Int)==(0:Int) then decide ((0:Int)>(1024:Int)) else false)=false,((1:Int)==(0:Int))=true→inR .i64 ((b.length:Int)-(↑(p+(1:Nat)+(2:Nat)):Int)),(bif (1:Int)==(0:Int) then decide ((0:Int)>(b.length:Int)-(↑(p+(1:Nat)+(2:Nat)):Int)) else false)=false,((1:Int)==(0:Int))=false] ⟨aS,rfl,i6,rfl,rfl,(fun _=>i6),rfl,rfl⟩ ?_
 refine zl (fun (k:Nat)=>⟨[(0,.v (.c (.ptr (0:Nat) (0:Nat)))),(1,.v (.c (.int .i64 ((17:Int)-(↑(f+(1:Nat)):Int))))),(4,.v (.c (.ptr 1 (0:Nat)))),(5,.v (.c (.ptr (289:Nat) (0:Nat)))),(6,.v (.c (.int .i64 (0:Int)))),(8,.v (.c (.int .i64 (0:Int))))],[(1,.box 64 [.int .i64 (0:Int),.int .i64 (0:Int),.str [],.nilsl]),(289,.box 64 [.int .i64 (↑(1:Nat):Int),.int .i64 (0:Int),.str [],.nilsl]),(0,.box 232 [.sl (1:Nat) b.length (bytesF b),.int .i64 (↑(p+(1:Nat)+(2:Nat)):Int),.int .i64 ((↑l:Int)-(1:Int)),.int .i64 (1:Int)])],1265⟩) (fun _=>True) (fun k=>k) 0 trivial ?_ [(1,1),(289,289)]
 intro k L hk again
 refine zg [(36,{fm:=[(0,.agg [.int .i64 1,.int .i64 0,.str [],.sl 4 0 (fun _ _ => .nilif)])]})] [false] [(bif decide ((0:Int)<(0:Int)) then (1:Int)==(0:Int) else false)=false,EqvI (.agg [.int .i64 (↑(1:Nat):Int),.int .i64 0,.str [],.nilsl]) (.agg [.int .i64 1,.int .i64 0,.str [],.sl 4 (0:Nat) fun (x x_1:Nat) => .nilif]),EqvD (.agg [.int .i64 (↑(1:Nat):Int),.int .i64 0,.str [],.nilsl]) (.agg [.int .i64 1,.int .i64 0,.str [],.sl 4 (0:Nat) fun (x x_1:Nat) => .nilif])] ⟨rfl,eqvI_flat _ _ kR,(show EqvD (.agg [.int .i64 (↑(1:Nat):Int),.int .i64 (0:Int),.str [],.nilsl]) (.agg [.int .i64 (1:Int),.int .i64 (0:Int),.str [],.sl (4:Nat) (0:Nat) fun (x x_1:Nat) => .nilif]) from aS)⟩ ?_
 exact zb []
theorem node_a2 (b:List UInt8) (hb:b.length≤30000000000000) (f p l:Nat) (hf:f<16) (hl:0<l) (hl2:l≤64) (hp:p<b.length) (hk:(b.getD p 0).toNat=1) (h2:p+1+2≤b.length) {n:Nat} (hn:(beN b (p+1) 2).toNat=n) (h3:1024<n):FnB Tryz.prog G 223 [rB b p l 0] [.c (.ptr 0 0),.c (.int .i64 (17-((f+1:Nat):Int)))] [.agg (encK ⟨1,0,[],0,fun _ _ => .nilif⟩)] [(0,rB b (p+1+2) ((l:Int)-1) 3)]:=by
 refine zf Tryz.func223 ?_
 have ht0:(bif (0:Int)==0 then bif decide ((l:Int)<1) then true else decide (17-((f+1:Nat):Int)>16) else false)=false:=by rw [decide_eq_false oM,decide_eq_false oM];rfl
 have c1:=num1 (G:=G) b p ((l:Int)-1) hb hp hk
 have c2:=numN (G:=G) b (p+1) ((l:Int)-1) 2 hb dC h2
 rw [hn] at c2
 have ht1:(bif (0:Int)==0 then decide ((n:Int)>1024) else false)=true:=by rw [decide_eq_true oM];rfl
 have eD:=@kids_D 1 0 [] (fun _ _ => .nilif)
 have eI:=@kids_I 1 0 [] (fun _ _ => .nilif)
 refine zg [(36,{fm:=[(0,.agg [.int .i64 1,.int .i64 0,.str [],.sl 4 0 (fun _ _ => .nilif)])]}),(7,{cs:=[(1,cb [0] c1)]}),(13,{cs:=[(1,cb [0] c2)]})] [false,false,true,true,false,false] [(bif (0:Int)==(0:Int) then bif decide ((l:Int)<(1:Int)) then true else decide ((17:Int)-(↑(f+(1:Nat)):Int)>(16:Int)) else false)=false,((0:Int) != (0:Int))=false,inR .i64 ((l:Int)-1),((↑(1:Nat):Int)==(1:Int))=true,(bif (0:Int)==(0:Int) then decide ((n:Int)>(1024:Int)) else false)=true,((3:Int)==(0:Int))=true→inR .i64 ((b.length:Int)-(↑(p+(1:Nat)+(2:Nat)):Int)),(bif (3:Int)==(0:Int) then decide ((n:Int)>(b.length:Int)-(↑(p+(1:Nat)+(2:Nat)):Int)) else false)=false,((3:Int)==(0:Int))=false] ⟨aS,rfl,i6,rfl,aS,(fun _=>i6),rfl,rfl⟩ ?_
 refine zl (fun (k:Nat)=>⟨[(0,.v (.c (.ptr (0:Nat) (0:Nat)))),(1,.v (.c (.int .i64 ((17:Int)-(↑(f+(1:Nat)):Int))))),(4,.v (.c (.ptr 1 (0:Nat)))),(5,.v (.c (.ptr (289:Nat) (0:Nat)))),(6,.v (.c (.int .i64 (0:Int)))),(8,.v (.c (.int .i64 (0:Int))))],[(1,.box 64 [.int .i64 (0:Int),.int .i64 (0:Int),.str [],.nilsl]),(289,.box 64 [.int .i64 (↑(1:Nat):Int),.int .i64 (0:Int),.str [],.nilsl]),(0,.box 232 [.sl (1:Nat) b.length (bytesF b),.int .i64 (↑(p+(1:Nat)+(2:Nat)):Int),.int .i64 ((↑l:Int)-(1:Int)),.int .i64 (3:Int)])],1329⟩) (fun _=>True) (fun k=>k) 0 trivial ?_ [(1,1),(289,289)]
 intro k L hk again
 refine zg [(36,{fm:=[(0,.agg [.int .i64 1,.int .i64 0,.str [],.sl 4 0 (fun _ _ => .nilif)])]})] [false] [(bif decide ((0:Int)<(0:Int)) then (3:Int)==(0:Int) else false)=false,EqvI (.agg [.int .i64 (↑(1:Nat):Int),.int .i64 0,.str [],.nilsl]) (.agg [.int .i64 1,.int .i64 0,.str [],.sl 4 (0:Nat) fun (x x_1:Nat) => .nilif]),EqvD (.agg [.int .i64 (↑(1:Nat):Int),.int .i64 0,.str [],.nilsl]) (.agg [.int .i64 1,.int .i64 0,.str [],.sl 4 (0:Nat) fun (x x_1:Nat) => .nilif])] ⟨rfl,eqvI_flat _ _ kR,(show EqvD (.agg [.int .i64 (↑(1:Nat):Int),.int .i64 (0:Int),.str [],.nilsl]) (.agg [.int .i64 (1:Int),.int .i64 (0:Int),.str [],.sl (4:Nat) (0:Nat) fun (x x_1:Nat) => .nilif]) from aS)⟩ ?_
 exact zb []
theorem node_a3 (b:List UInt8) (hb:b.length≤30000000000000) (f p l:Nat) (hf:f<16) (hl:0<l) (hl2:l≤64) (hp:p<b.length) (hk:(b.getD p 0).toNat=1) (h2:p+1+2≤b.length) {n:Nat} (hn:(beN b (p+1) 2).toNat=n) (h3:n≤1024) (h4:b.length<p+1+2+n):FnB Tryz.prog G 223 [rB b p l 0] [.c (.ptr 0 0),.c (.int .i64 (17-((f+1:Nat):Int)))] [.agg (encK ⟨1,0,[],0,fun _ _ => .nilif⟩)] [(0,rB b (p+1+2) ((l:Int)-1) 1)]:=by
 refine zf Tryz.func223 ?_
 have ht0:(bif (0:Int)==0 then bif decide ((l:Int)<1) then true else decide (17-((f+1:Nat):Int)>16) else false)=false:=by rw [decide_eq_false oM,decide_eq_false oM];rfl
 have c1:=num1 (G:=G) b p ((l:Int)-1) hb hp hk
 have c2:=numN (G:=G) b (p+1) ((l:Int)-1) 2 hb dC h2
 rw [hn] at c2
 have ht1:(bif (0:Int)==0 then decide ((n:Int)>1024) else false)=false:=by rw [decide_eq_false oM];rfl
 have ht2:(bif (0:Int)==0 then decide ((n:Int)>(b.length:Int)-((p+1+2:Nat):Int)) else false)=true:=by rw [decide_eq_true oM];rfl
 have eD:=@kids_D 1 0 [] (fun _ _ => .nilif)
 have eI:=@kids_I 1 0 [] (fun _ _ => .nilif)
 refine zg [(36,{fm:=[(0,.agg [.int .i64 1,.int .i64 0,.str [],.sl 4 0 (fun _ _ => .nilif)])]}),(7,{cs:=[(1,cb [0] c1)]}),(13,{cs:=[(1,cb [0] c2)]})] [false,false,true,false,true,false] [(bif (0:Int)==(0:Int) then bif decide ((l:Int)<(1:Int)) then true else decide ((17:Int)-(↑(f+(1:Nat)):Int)>(16:Int)) else false)=false,((0:Int) != (0:Int))=false,inR .i64 ((l:Int)-1),((↑(1:Nat):Int)==(1:Int))=true,(bif (0:Int)==(0:Int) then decide ((n:Int)>(1024:Int)) else false)=false,((0:Int)==(0:Int))=true→inR .i64 ((b.length:Int)-(↑(p+(1:Nat)+(2:Nat)):Int)),(bif (0:Int)==(0:Int) then decide ((n:Int)>(b.length:Int)-(↑(p+(1:Nat)+(2:Nat)):Int)) else false)=true,((1:Int)==(0:Int))=false] ⟨aS,rfl,i6,rfl,aS,(fun _=>i6),aS,rfl⟩ ?_
 refine zl (fun (k:Nat)=>⟨[(0,.v (.c (.ptr (0:Nat) (0:Nat)))),(1,.v (.c (.int .i64 ((17:Int)-(↑(f+(1:Nat)):Int))))),(4,.v (.c (.ptr 1 (0:Nat)))),(5,.v (.c (.ptr (289:Nat) (0:Nat)))),(6,.v (.c (.int .i64 (0:Int)))),(8,.v (.c (.int .i64 (0:Int))))],[(1,.box 64 [.int .i64 (0:Int),.int .i64 (0:Int),.str [],.nilsl]),(289,.box 64 [.int .i64 (↑(1:Nat):Int),.int .i64 (0:Int),.str [],.nilsl]),(0,.box 232 [.sl (1:Nat) b.length (bytesF b),.int .i64 (↑(p+(1:Nat)+(2:Nat)):Int),.int .i64 ((↑l:Int)-(1:Int)),.int .i64 (1:Int)])],1329⟩) (fun _=>True) (fun k=>k) 0 trivial ?_ [(1,1),(289,289)]
 intro k L hk again
 refine zg [(36,{fm:=[(0,.agg [.int .i64 1,.int .i64 0,.str [],.sl 4 0 (fun _ _ => .nilif)])]})] [false] [(bif decide ((0:Int)<(0:Int)) then (1:Int)==(0:Int) else false)=false,EqvI (.agg [.int .i64 (↑(1:Nat):Int),.int .i64 0,.str [],.nilsl]) (.agg [.int .i64 1,.int .i64 0,.str [],.sl 4 (0:Nat) fun (x x_1:Nat) => .nilif]),EqvD (.agg [.int .i64 (↑(1:Nat):Int),.int .i64 0,.str [],.nilsl]) (.agg [.int .i64 1,.int .i64 0,.str [],.sl 4 (0:Nat) fun (x x_1:Nat) => .nilif])] ⟨rfl,eqvI_flat _ _ kR,(show EqvD (.agg [.int .i64 (↑(1:Nat):Int),.int .i64 (0:Int),.str [],.nilsl]) (.agg [.int .i64 (1:Int),.int .i64 (0:Int),.str [],.sl (4:Nat) (0:Nat) fun (x x_1:Nat) => .nilif]) from aS)⟩ ?_
 exact zb []
theorem node_a4 (b:List UInt8) (hb:b.length≤30000000000000) (f p l:Nat) (hf:f<16) (hl:0<l) (hl2:l≤64) (hp:p<b.length) (hk:(b.getD p 0).toNat=1) (h2:p+1+2≤b.length) {n:Nat} (hn:(beN b (p+1) 2).toNat=n) (h3:n≤1024) (h4:p+1+2+n≤b.length):FnB Tryz.prog G 223 [rB b p l 0] [.c (.ptr 0 0),.c (.int .i64 (17-((f+1:Nat):Int)))] [.agg (encK ⟨1,0,((b.drop (p+1+2)).take n),0,fun _ _ => .nilif⟩)] [(0,rB b (p+1+2+n) ((l:Int)-1) 0)]:=by
 refine zf Tryz.func223 ?_
 have ht0:(bif (0:Int)==0 then bif decide ((l:Int)<1) then true else decide (17-((f+1:Nat):Int)>16) else false)=false:=by rw [decide_eq_false oM,decide_eq_false oM];rfl
 have c1:=num1 (G:=G) b p ((l:Int)-1) hb hp hk
 have c2:=numN (G:=G) b (p+1) ((l:Int)-1) 2 hb dC h2
 rw [hn] at c2
 have ht1:(bif (0:Int)==0 then decide ((n:Int)>1024) else false)=false:=by rw [decide_eq_false oM];rfl
 have ht2:(bif (0:Int)==0 then decide ((n:Int)>(b.length:Int)-((p+1+2:Nat):Int)) else false)=false:=by rw [decide_eq_false oM];rfl
 have hbl:n=((b.drop (p+1+2)).take n).length:=by rw [List.length_take,List.length_drop];omega
 have e3:EqvD (.c (.sl 1 ((((p+1+2:Nat):Int)+(n:Int)).toNat-(((p+1+2:Nat):Int)).toNat) (fun i j=>bytesF b ((((p+1+2:Nat):Int)).toNat+i) j))) (.c (.sl 1 n (bytesF ((b.drop (p+1+2)).take n)))):=EqvD.sl oM (fun i hi j hj=>by
  show Cell.int .u8 _=Cell.int .u8 _
  have hi2:i<n:=by omega
  rw [List.getD_eq_getElem?_getD,List.getD_eq_getElem?_getD,List.getElem?_take,if_pos hi2,List.getElem?_drop];rfl)
 have e4:=areBytes_F ((b.drop (p+1+2)).take n) 0 n
 have e5:EqvD (.c (.str (byteL (bytesF ((b.drop (p+1+2)).take n)) 0 n))) (.c (.str ((b.drop (p+1+2)).take n))):=eqvD_of (by rw [byteL_F _ hbl])
 have eD:=@kids_D 1 0 ((b.drop (p+1+2)).take n) (fun _ _ => .nilif)
 have eI:=@kids_I 1 0 ((b.drop (p+1+2)).take n) (fun _ _ => .nilif)
 refine zg [(19,{fm:=[(14,.c (.sl 1 n (bytesF ((b.drop (p+1+2)).take n)))),(15,.c (.str ((b.drop (p+1+2)).take n)))]}),(36,{fm:=[(0,.agg [.int .i64 1,.int .i64 0,.str ((b.drop (p+1+2)).take n),.sl 4 0 (fun _ _ => .nilif)])]}),(7,{cs:=[(1,cb [0] c1)]}),(13,{cs:=[(1,cb [0] c2)]})] [false,false,true,false,false,true] [(bif (0:Int)==(0:Int) then bif decide ((l:Int)<(1:Int)) then true else decide ((17:Int)-(↑(f+(1:Nat)):Int)>(16:Int)) else false)=false,((0:Int) != (0:Int))=false,inR .i64 ((l:Int)-1),((↑(1:Nat):Int)==(1:Int))=true,(bif (0:Int)==(0:Int) then decide ((n:Int)>(1024:Int)) else false)=false,((0:Int)==(0:Int))=true→inR .i64 ((b.length:Int)-(↑(p+(1:Nat)+(2:Nat)):Int)),(bif (0:Int)==(0:Int) then decide ((n:Int)>(b.length:Int)-(↑(p+(1:Nat)+(2:Nat)):Int)) else false)=false,((0:Int)==(0:Int))=true,inR .i64 ((↑(p+(1:Nat)+(2:Nat)):Int)+(n:Int)),EqvI (.c (.sl 1 ((Int.ofNat (p+(1:Nat)+(2:Nat)+n)).toNat-(Int.ofNat (p+(1:Nat)+(2:Nat))).toNat) fun i j=>bytesF b ((Int.ofNat (p+(1:Nat)+(2:Nat))).toNat+i) j)) (.c (.sl 1 n (bytesF (List.take n (List.drop (p+(1:Nat)+(2:Nat)) b))))),EqvD (.c (.sl 1 ((Int.ofNat (p+(1:Nat)+(2:Nat)+n)).toNat-(Int.ofNat (p+(1:Nat)+(2:Nat))).toNat) fun i j=>bytesF b ((Int.ofNat (p+(1:Nat)+(2:Nat))).toNat+i) j)) (.c (.sl 1 n (bytesF (List.take n (List.drop (p+(1:Nat)+(2:Nat)) b))))),(0:Int)≤Int.ofNat (p+(1:Nat)+(2:Nat))∧Int.ofNat (p+(1:Nat)+(2:Nat))≤Int.ofNat (p+(1:Nat)+(2:Nat)+n)∧Int.ofNat (p+(1:Nat)+(2:Nat)+n)≤(b.length:Int),EqvI (.c (.str (byteL (bytesF (List.take n (List.drop (p+1+2) b))) 0 n))) (.c (.str (List.take n (List.drop (p+1+2) b)))),EqvD (.c (.str (byteL (bytesF (List.take n (List.drop (p+1+2) b))) 0 n))) (.c (.str (List.take n (List.drop (p+1+2) b)))),areBytes (bytesF (List.take n (List.drop (p+1+2) b))) 0 n,inR .i64 ((↑(p+(1:Nat)+(2:Nat)):Int)+(n:Int))] ⟨aS,rfl,i6,rfl,aS,(fun _=>i6),aS,rfl,i6,fun _ _=>trivial,aS,⟨sO,⟨sO,sO⟩⟩,fun _ _=>trivial,aS,aS,i6⟩ ?_
 refine zl (fun (k:Nat)=>⟨[(0,.v (.c (.ptr (0:Nat) (0:Nat)))),(1,.v (.c (.int .i64 ((17:Int)-(↑(f+(1:Nat)):Int))))),(4,.v (.c (.ptr 1 (0:Nat)))),(5,.v (.c (.ptr (289:Nat) (0:Nat)))),(6,.v (.c (.int .i64 (0:Int)))),(8,.v (.c (.int .i64 (0:Int))))],[(1,.box 64 [.int .i64 (0:Int),.int .i64 (0:Int),.str [],.nilsl]),(289,.box 64 [.int .i64 (↑(1:Nat):Int),.int .i64 (0:Int),.str (List.take n (List.drop (p+(1:Nat)+(2:Nat)) b)),.nilsl]),(0,.box 232 [.sl (1:Nat) b.length (bytesF b),.int .i64 ((↑(p+(1:Nat)+(2:Nat)):Int)+(↑n:Int)),.int .i64 ((↑l:Int)-(1:Int)),.int .i64 (0:Int)])],1713⟩) (fun _=>True) (fun k=>k) 0 trivial ?_ [(1,1),(289,289)]
 intro k L hk again
 refine zg [(36,{fm:=[(0,.agg [.int .i64 1,.int .i64 0,.str ((b.drop (p+1+2)).take n),.sl 4 0 (fun _ _ => .nilif)])]})] [false] [(bif decide ((0:Int)<(0:Int)) then (0:Int)==(0:Int) else false)=false,EqvI (.agg [.int .i64 (↑(1:Nat):Int),.int .i64 0,.str (List.take n (List.drop (p+(1:Nat)+(2:Nat)) b)),.nilsl]) (.agg [.int .i64 1,.int .i64 0,.str (List.take n (List.drop (p+(1:Nat)+(2:Nat)) b)),.sl 4 (0:Nat) fun (x x_1:Nat) => .nilif]),EqvD (.agg [.int .i64 (↑(1:Nat):Int),.int .i64 0,.str (List.take n (List.drop (p+(1:Nat)+(2:Nat)) b)),.nilsl]) (.agg [.int .i64 1,.int .i64 0,.str (List.take n (List.drop (p+(1:Nat)+(2:Nat)) b)),.sl 4 (0:Nat) fun (x x_1:Nat) => .nilif])] ⟨rfl,eqvI_flat _ _ kR,(show EqvD (.agg [.int .i64 (↑(1:Nat):Int),.int .i64 (0:Int),.str (List.take n (List.drop (p+(1:Nat)+(2:Nat)) b)),.nilsl]) (.agg [.int .i64 (1:Int),.int .i64 (0:Int),.str (List.take n (List.drop (p+(1:Nat)+(2:Nat)) b)),.sl (4:Nat) (0:Nat) fun (x x_1:Nat) => .nilif]) from aS)⟩ ?_
 exact zb []
theorem node_n1 (b:List UInt8) (hb:b.length≤30000000000000) (f p l:Nat) (hf:f<16) (hl:0<l) (hl2:l≤64) (hp:p<b.length) (hk:(b.getD p 0).toNat=2) (h2:b.length<p+1+4):FnB Tryz.prog G 223 [rB b p l 0] [.c (.ptr 0 0),.c (.int .i64 (17-((f+1:Nat):Int)))] [.agg (encK ⟨2,0,[],0,fun _ _ => .nilif⟩)] [(0,rB b (p+1+4) ((l:Int)-1) 1)]:=by
 refine zf Tryz.func223 ?_
 have ht0:(bif (0:Int)==0 then bif decide ((l:Int)<1) then true else decide (17-((f+1:Nat):Int)>16) else false)=false:=by rw [decide_eq_false oM,decide_eq_false oM];rfl
 have c1:=num1 (G:=G) b p ((l:Int)-1) hb hp hk
 have c2:=numR_short (G:=G) b (p+1) ((l:Int)-1) 4 hb dC dC oM h2
 have eD:=@kids_D 2 0 [] (fun _ _ => .nilif)
 have eI:=@kids_I 2 0 [] (fun _ _ => .nilif)
 refine zg [(36,{fm:=[(0,.agg [.int .i64 2,.int .i64 0,.str [],.sl 4 0 (fun _ _ => .nilif)])]}),(7,{cs:=[(1,cb [0] c1)]}),(22,{cs:=[(1,cb [0] c2)]})] [false,false,false,true,false] [(bif (0:Int)==(0:Int) then bif decide ((l:Int)<(1:Int)) then true else decide ((17:Int)-(↑(f+(1:Nat)):Int)>(16:Int)) else false)=false,((0:Int) != (0:Int))=false,inR .i64 ((l:Int)-1),((↑(2:Nat):Int)==(1:Int))=false,((↑(2:Nat):Int)==(2:Int))=true,(bif (1:Int)==(0:Int) then decide ((0:Int)>(1073741824:Int)) else false)=false] ⟨aS,rfl,i6,rfl,rfl,rfl⟩ ?_
 refine zl (fun (k:Nat)=>⟨[(0,.v (.c (.ptr (0:Nat) (0:Nat)))),(1,.v (.c (.int .i64 ((17:Int)-(↑(f+(1:Nat)):Int))))),(4,.v (.c (.ptr 1 (0:Nat)))),(5,.v (.c (.ptr (289:Nat) (0:Nat)))),(6,.v (.c (.int .i64 (0:Int)))),(8,.v (.c (.int .i64 (0:Int))))],[(1,.box 64 [.int .i64 (0:Int),.int .i64 (0:Int),.str [],.nilsl]),(289,.box 64 [.int .i64 (↑(2:Nat):Int),.int .i64 (0:Int),.str [],.nilsl]),(0,.box 232 [.sl (1:Nat) b.length (bytesF b),.int .i64 (↑(p+(1:Nat)+(4:Nat)):Int),.int .i64 ((↑l:Int)-(1:Int)),.int .i64 (1:Int)])],945⟩) (fun _=>True) (fun k=>k) 0 trivial ?_ [(1,1),(289,289)]
 intro k L hk again
 refine zg [(36,{fm:=[(0,.agg [.int .i64 2,.int .i64 0,.str [],.sl 4 0 (fun _ _ => .nilif)])]})] [false] [(bif decide ((0:Int)<(0:Int)) then (1:Int)==(0:Int) else false)=false,EqvI (.agg [.int .i64 (↑(2:Nat):Int),.int .i64 0,.str [],.nilsl]) (.agg [.int .i64 2,.int .i64 0,.str [],.sl 4 (0:Nat) fun (x x_1:Nat) => .nilif]),EqvD (.agg [.int .i64 (↑(2:Nat):Int),.int .i64 0,.str [],.nilsl]) (.agg [.int .i64 2,.int .i64 0,.str [],.sl 4 (0:Nat) fun (x x_1:Nat) => .nilif])] ⟨rfl,eqvI_flat _ _ kR,(show EqvD (.agg [.int .i64 (↑(2:Nat):Int),.int .i64 (0:Int),.str [],.nilsl]) (.agg [.int .i64 (2:Int),.int .i64 (0:Int),.str [],.sl (4:Nat) (0:Nat) fun (x x_1:Nat) => .nilif]) from aS)⟩ ?_
 exact zb []
theorem node_n2 (b:List UInt8) (hb:b.length≤30000000000000) (f p l:Nat) (hf:f<16) (hl:0<l) (hl2:l≤64) (hp:p<b.length) (hk:(b.getD p 0).toNat=2) (h2:p+1+4≤b.length) {n:Nat} (hn:(beN b (p+1) 4).toNat=n) (h3:1073741824<n):FnB Tryz.prog G 223 [rB b p l 0] [.c (.ptr 0 0),.c (.int .i64 (17-((f+1:Nat):Int)))] [.agg (encK ⟨2,(n:Int),[],0,fun _ _ => .nilif⟩)] [(0,rB b (p+1+4) ((l:Int)-1) 3)]:=by
 refine zf Tryz.func223 ?_
 have ht0:(bif (0:Int)==0 then bif decide ((l:Int)<1) then true else decide (17-((f+1:Nat):Int)>16) else false)=false:=by rw [decide_eq_false oM,decide_eq_false oM];rfl
 have c1:=num1 (G:=G) b p ((l:Int)-1) hb hp hk
 have c2:=numN (G:=G) b (p+1) ((l:Int)-1) 4 hb dC h2
 rw [hn] at c2
 have ht1:(bif (0:Int)==0 then decide ((n:Int)>1073741824) else false)=true:=by rw [decide_eq_true oM];rfl
 have eD:=@kids_D 2 (n:Int) [] (fun _ _ => .nilif)
 have eI:=@kids_I 2 (n:Int) [] (fun _ _ => .nilif)
 refine zg [(36,{fm:=[(0,.agg [.int .i64 2,.int .i64 (n:Int),.str [],.sl 4 0 (fun _ _ => .nilif)])]}),(7,{cs:=[(1,cb [0] c1)]}),(22,{cs:=[(1,cb [0] c2)]})] [false,false,false,true,true] [(bif (0:Int)==(0:Int) then bif decide ((l:Int)<(1:Int)) then true else decide ((17:Int)-(↑(f+(1:Nat)):Int)>(16:Int)) else false)=false,((0:Int) != (0:Int))=false,inR .i64 ((l:Int)-1),((↑(2:Nat):Int)==(1:Int))=false,((↑(2:Nat):Int)==(2:Int))=true,(bif (0:Int)==(0:Int) then decide ((n:Int)>(1073741824:Int)) else false)=true] ⟨aS,rfl,i6,rfl,rfl,(show (bif (0:Int)==(0:Int) then decide ((↑n:Int)>(1073741824:Int)) else false)=true from aS)⟩ ?_
 refine zl (fun (k:Nat)=>⟨[(0,.v (.c (.ptr (0:Nat) (0:Nat)))),(1,.v (.c (.int .i64 ((17:Int)-(↑(f+(1:Nat)):Int))))),(4,.v (.c (.ptr 1 (0:Nat)))),(5,.v (.c (.ptr (289:Nat) (0:Nat)))),(6,.v (.c (.int .i64 (0:Int)))),(8,.v (.c (.int .i64 (0:Int))))],[(1,.box 64 [.int .i64 (0:Int),.int .i64 (0:Int),.str [],.nilsl]),(289,.box 64 [.int .i64 (↑(2:Nat):Int),.int .i64 (↑n:Int),.str [],.nilsl]),(0,.box 232 [.sl (1:Nat) b.length (bytesF b),.int .i64 (↑(p+(1:Nat)+(4:Nat)):Int),.int .i64 ((↑l:Int)-(1:Int)),.int .i64 (3:Int)])],1009⟩) (fun _=>True) (fun k=>k) 0 trivial ?_ [(1,1),(289,289)]
 intro k L hk again
 refine zg [(36,{fm:=[(0,.agg [.int .i64 2,.int .i64 (n:Int),.str [],.sl 4 0 (fun _ _ => .nilif)])]})] [false] [(bif decide ((0:Int)<(0:Int)) then (3:Int)==(0:Int) else false)=false,EqvI (.agg [.int .i64 (↑(2:Nat):Int),.int .i64 (n:Int),.str [],.nilsl]) (.agg [.int .i64 2,.int .i64 (n:Int),.str [],.sl 4 (0:Nat) fun (x x_1:Nat) => .nilif]),EqvD (.agg [.int .i64 (↑(2:Nat):Int),.int .i64 (n:Int),.str [],.nilsl]) (.agg [.int .i64 2,.int .i64 (n:Int),.str [],.sl 4 (0:Nat) fun (x x_1:Nat) => .nilif])] ⟨rfl,eqvI_flat _ _ kR,(show EqvD (.agg [.int .i64 (↑(2:Nat):Int),.int .i64 (↑n:Int),.str [],.nilsl]) (.agg [.int .i64 (2:Int),.int .i64 (↑n:Int),.str [],.sl (4:Nat) (0:Nat) fun (x x_1:Nat) => .nilif]) from aS)⟩ ?_
 exact zb []
theorem node_n3 (b:List UInt8) (hb:b.length≤30000000000000) (f p l:Nat) (hf:f<16) (hl:0<l) (hl2:l≤64) (hp:p<b.length) (hk:(b.getD p 0).toNat=2) (h2:p+1+4≤b.length) {n:Nat} (hn:(beN b (p+1) 4).toNat=n) (h3:n≤1073741824):FnB Tryz.prog G 223 [rB b p l 0] [.c (.ptr 0 0),.c (.int .i64 (17-((f+1:Nat):Int)))] [.agg (encK ⟨2,(n:Int),[],0,fun _ _ => .nilif⟩)] [(0,rB b (p+1+4) ((l:Int)-1) 0)]:=by
 refine zf Tryz.func223 ?_
 have ht0:(bif (0:Int)==0 then bif decide ((l:Int)<1) then true else decide (17-((f+1:Nat):Int)>16) else false)=false:=by rw [decide_eq_false oM,decide_eq_false oM];rfl
 have c1:=num1 (G:=G) b p ((l:Int)-1) hb hp hk
 have c2:=numN (G:=G) b (p+1) ((l:Int)-1) 4 hb dC h2
 rw [hn] at c2
 have ht1:(bif (0:Int)==0 then decide ((n:Int)>1073741824) else false)=false:=by rw [decide_eq_false oM];rfl
 have eD:=@kids_D 2 (n:Int) [] (fun _ _ => .nilif)
 have eI:=@kids_I 2 (n:Int) [] (fun _ _ => .nilif)
 refine zg [(36,{fm:=[(0,.agg [.int .i64 2,.int .i64 (n:Int),.str [],.sl 4 0 (fun _ _ => .nilif)])]}),(7,{cs:=[(1,cb [0] c1)]}),(22,{cs:=[(1,cb [0] c2)]})] [false,false,false,true,false] [(bif (0:Int)==(0:Int) then bif decide ((l:Int)<(1:Int)) then true else decide ((17:Int)-(↑(f+(1:Nat)):Int)>(16:Int)) else false)=false,((0:Int) != (0:Int))=false,inR .i64 ((l:Int)-1),((↑(2:Nat):Int)==(1:Int))=false,((↑(2:Nat):Int)==(2:Int))=true,(bif (0:Int)==(0:Int) then decide ((n:Int)>(1073741824:Int)) else false)=false] ⟨aS,rfl,i6,rfl,rfl,(show (bif (0:Int)==(0:Int) then decide ((↑n:Int)>(1073741824:Int)) else false)=false from aS)⟩ ?_
 refine zl (fun (k:Nat)=>⟨[(0,.v (.c (.ptr (0:Nat) (0:Nat)))),(1,.v (.c (.int .i64 ((17:Int)-(↑(f+(1:Nat)):Int))))),(4,.v (.c (.ptr 1 (0:Nat)))),(5,.v (.c (.ptr (289:Nat) (0:Nat)))),(6,.v (.c (.int .i64 (0:Int)))),(8,.v (.c (.int .i64 (0:Int))))],[(1,.box 64 [.int .i64 (0:Int),.int .i64 (0:Int),.str [],.nilsl]),(289,.box 64 [.int .i64 (↑(2:Nat):Int),.int .i64 (↑n:Int),.str [],.nilsl]),(0,.box 232 [.sl (1:Nat) b.length (bytesF b),.int .i64 (↑(p+(1:Nat)+(4:Nat)):Int),.int .i64 ((↑l:Int)-(1:Int)),.int .i64 (0:Int)])],945⟩) (fun _=>True) (fun k=>k) 0 trivial ?_ [(1,1),(289,289)]
 intro k L hk again
 refine zg [(36,{fm:=[(0,.agg [.int .i64 2,.int .i64 (n:Int),.str [],.sl 4 0 (fun _ _ => .nilif)])]})] [false] [(bif decide ((0:Int)<(0:Int)) then (0:Int)==(0:Int) else false)=false,EqvI (.agg [.int .i64 (↑(2:Nat):Int),.int .i64 (n:Int),.str [],.nilsl]) (.agg [.int .i64 2,.int .i64 (n:Int),.str [],.sl 4 (0:Nat) fun (x x_1:Nat) => .nilif]),EqvD (.agg [.int .i64 (↑(2:Nat):Int),.int .i64 (n:Int),.str [],.nilsl]) (.agg [.int .i64 2,.int .i64 (n:Int),.str [],.sl 4 (0:Nat) fun (x x_1:Nat) => .nilif])] ⟨rfl,eqvI_flat _ _ kR,(show EqvD (.agg [.int .i64 (↑(2:Nat):Int),.int .i64 (↑n:Int),.str [],.nilsl]) (.agg [.int .i64 (2:Int),.int .i64 (↑n:Int),.str [],.sl (4:Nat) (0:Nat) fun (x x_1:Nat) => .nilif]) from aS)⟩ ?_
 exact zb []
theorem node_bad (b:List UInt8) (hb:b.length≤30000000000000) (f p l:Nat) (hf:f<16) (hl:0<l) (hl2:l≤64) (hp:p<b.length) {k:Nat} (hk:(b.getD p 0).toNat=k) (hk0:k=0∨8≤k):FnB Tryz.prog G 223 [rB b p l 0] [.c (.ptr 0 0),.c (.int .i64 (17-((f+1:Nat):Int)))] [.agg (encK ⟨(k:Int),0,[],0,fun _ _ => .nilif⟩)] [(0,rB b (p+1) ((l:Int)-1) 2)]:=by
 refine zf Tryz.func223 ?_
 have ht0:(bif (0:Int)==0 then bif decide ((l:Int)<1) then true else decide (17-((f+1:Nat):Int)>16) else false)=false:=by rw [decide_eq_false oM,decide_eq_false oM];rfl
 have c1:=num1 (G:=G) b p ((l:Int)-1) hb hp hk
 have hk1:((k:Int)==1)=false:=by rw [beq_eq_false_iff_ne];omega
 have hk2:((k:Int)==2)=false:=by rw [beq_eq_false_iff_ne];omega
 have hk3:((k:Int)==3)=false:=by rw [beq_eq_false_iff_ne];omega
 have hk4:((k:Int)==4)=false:=by rw [beq_eq_false_iff_ne];omega
 have hk5:((k:Int)==5)=false:=by rw [beq_eq_false_iff_ne];omega
 have hk6:((k:Int)==6)=false:=by rw [beq_eq_false_iff_ne];omega
 have hk7:((k:Int)==7)=false:=by rw [beq_eq_false_iff_ne];omega
 have eD:=@kids_D (k:Int) 0 [] (fun _ _ => .nilif)
 have eI:=@kids_I (k:Int) 0 [] (fun _ _ => .nilif)
 refine zg [(36,{fm:=[(0,.agg [.int .i64 (k:Int),.int .i64 0,.str [],.sl 4 0 (fun _ _ => .nilif)])]}),(7,{cs:=[(1,cb [0] c1)]})] [false,false,false,false,false,false,false,false,false,true] [(bif (0:Int)==(0:Int) then bif decide ((l:Int)<(1:Int)) then true else decide ((17:Int)-(↑(f+(1:Nat)):Int)>(16:Int)) else false)=false,((0:Int) != (0:Int))=false,inR .i64 ((l:Int)-1),((k:Int)==(1:Int))=false,((k:Int)==(2:Int))=false,((k:Int)==(3:Int))=false,((k:Int)==(4:Int))=false,((k:Int)==(5:Int))=false,((k:Int)==(6:Int))=false,((k:Int)==(7:Int))=false,((0:Int)==(0:Int))=true] ⟨aS,rfl,i6,aS,aS,aS,aS,aS,aS,aS,rfl⟩ ?_
 refine zl (fun (k9:Nat)=>⟨[(0,.v (.c (.ptr (0:Nat) (0:Nat)))),(1,.v (.c (.int .i64 ((17:Int)-(↑(f+(1:Nat)):Int))))),(4,.v (.c (.ptr 1 (0:Nat)))),(5,.v (.c (.ptr (289:Nat) (0:Nat)))),(6,.v (.c (.int .i64 (0:Int)))),(8,.v (.c (.int .i64 (0:Int))))],[(1,.box 64 [.int .i64 (0:Int),.int .i64 (0:Int),.str [],.nilsl]),(289,.box 64 [.int .i64 (↑k:Int),.int .i64 (0:Int),.str [],.nilsl]),(0,.box 232 [.sl (1:Nat) b.length (bytesF b),.int .i64 (↑(p+(1:Nat)):Int),.int .i64 ((↑l:Int)-(1:Int)),.int .i64 (2:Int)])],1025⟩) (fun _=>True) (fun k=>k) 0 trivial ?_ [(1,1),(289,289)]
 intro k9 L hk9 again
 refine zg [(36,{fm:=[(0,.agg [.int .i64 (k:Int),.int .i64 0,.str [],.sl 4 0 (fun _ _ => .nilif)])]})] [false] [(bif decide ((0:Int)<(0:Int)) then (2:Int)==(0:Int) else false)=false,EqvI (.agg [.int .i64 (k:Int),.int .i64 0,.str [],.nilsl]) (.agg [.int .i64 (k:Int),.int .i64 0,.str [],.sl 4 (0:Nat) fun (x x_1:Nat) => .nilif]),EqvD (.agg [.int .i64 (k:Int),.int .i64 0,.str [],.nilsl]) (.agg [.int .i64 (k:Int),.int .i64 0,.str [],.sl 4 (0:Nat) fun (x x_1:Nat) => .nilif])] ⟨rfl,eqvI_flat _ _ kR,(show EqvD (.agg [.int .i64 (↑k:Int),.int .i64 (0:Int),.str [],.nilsl]) (.agg [.int .i64 (↑k:Int),.int .i64 (0:Int),.str [],.sl (4:Nat) (0:Nat) fun (x x_1:Nat) => .nilif]) from aS)⟩ ?_
 exact zb []
end Go.Proofs.Tw
end
section
open Go Go.Sv
namespace Go.Proofs.Tw
set_option maxRecDepth 100000
set_option maxHeartbeats 4000000
inductive TT
 | mk (k n:Int) (s:List UInt8) (kids:List TT)
def TT.k:TT→Int | .mk k _ _ _=>k
def TT.n:TT→Int | .mk _ n _ _=>n
def TT.s:TT→List UInt8 | .mk _ _ s _=>s
def TT.kids:TT→List TT | .mk _ _ _ ks=>ks
def TT.nil:TT := .mk 0 0 [] []
theorem TT.kid_lt {k n:Int} {s:List UInt8} {ks:List TT} {x:TT} (h:x∈ks):SizeOf.sizeOf x<SizeOf.sizeOf (TT.mk k n s ks):=by
 have:=List.sizeOf_lt_of_mem h
 simp only [TT.mk.sizeOf_spec];omega
def sgnI (a b:Int):Int:=if a<b then -1 else if b<a then 1 else 0
def sgnB (a b:List UInt8):Int:=if Op.bytesLess a b then -1 else if Op.bytesLess b a then 1 else 0
def thn (c d:Int):Int:=if c=0 then d else c
mutual
def cmpT:TT→TT→Int
 | .mk k n s ks,.mk k' n' s' ks'=>thn (sgnI k k') (thn (sgnI n n') (thn (sgnB s s') (cmpL ks ks')))
def cmpL:List TT→List TT→Int
 | [],[]=>0
 | [],_::_ => -1
 | _::_,[]=>1
 | x::r,y::r'=>thn (cmpT x y) (cmpL r r')
end
theorem cmpT_eq (a b:TT):cmpT a b=thn (sgnI a.k b.k) (thn (sgnI a.n b.n) (thn (sgnB a.s b.s) (cmpL a.kids b.kids))):=by
 cases a;cases b;rw [cmpT];rfl
def lexI:List Int→List Int→Int
 | [],[]=>0
 | [],_::_ => -1
 | _::_,[]=>1
 | x::r,y::r'=>thn (sgnI x y) (lexI r r')
def serB (s:List UInt8):List Int:=s.map (fun c=>(c.toNat:Int)+1)++[0]
mutual
def ser:TT→List Int
 | .mk k n s ks=>k::n::(serB s++serL ks)
def serL:List TT→List Int
 | []=>[0]
 | x::r=>1::(ser x++serL r)
end
theorem sgnI_0 {a b:Int}:sgnI a b=0↔a=b:=by
 unfold sgnI;constructor
 ·intro h;split at h
  ·cases h
  ·split at h
   ·cases h
   ·omega
 ·rintro rfl;simp
theorem sgnI_self (a:Int):sgnI a a=0:=sgnI_0.2 rfl
theorem thn_0 (d:Int):thn 0 d=d:=rfl
theorem thn_assoc (a b c:Int):thn (thn a b) c=thn a (thn b c):=by
 unfold thn
 by_cases h:a=0
 ·rw [if_pos h,if_pos h]
 ·rw [if_neg h,if_neg h,if_neg h]
theorem serB_lex:∀ (s t:List UInt8) (x y:List Int),lexI (serB s++x) (serB t++y)=thn (sgnB s t) (lexI x y)
 | [],[],x,y=>by show thn (sgnI 0 0) (lexI x y)=thn (sgnB [] []) (lexI x y); rfl
 | [],c::t,x,y=>by
  show thn (sgnI 0 ((c.toNat:Int)+1)) _=thn (sgnB [] (c::t)) _
  rw [show sgnI 0 ((c.toNat:Int)+1) = -1 by unfold sgnI;rw [if_pos oM],show sgnB [] (c::t) = -1 from rfl];rfl
 | c::s,[],x,y=>by
  show thn (sgnI ((c.toNat:Int)+1) 0) _=thn (sgnB (c::s) []) _
  rw [show sgnI ((c.toNat:Int)+1) 0=1 by unfold sgnI;rw [if_neg oM,if_pos oM],show sgnB (c::s) []=1 from rfl];rfl
 | c::s,d::t,x,y=>by
  show thn (sgnI ((c.toNat:Int)+1) ((d.toNat:Int)+1)) (lexI (serB s++x) (serB t++y))=_
  rw [serB_lex s t x y,← thn_assoc]
  congr 1
  unfold sgnB
  simp only [Op.bytesLess]
  rcases Nat.lt_trichotomy c.toNat d.toNat with h | h | h
  ·have h1:c<d:=h
   rw [show sgnI ((c.toNat:Int)+1) ((d.toNat:Int)+1) = -1 by unfold sgnI;rw [if_pos oM]]
   simp [h1];rfl
  ·have h1:c=d:=UInt8.toNat_inj.1 h
   subst h1
   rw [sgnI_self,thn_0]
   simp
  ·have h1:d<c:=h
   have h2:¬ c<d:=by intro h3;have:c.toNat<d.toNat:=h3;omega
   have h4:(c==d)=false:=by rw [beq_eq_false_iff_ne];rintro rfl;omega
   rw [show sgnI ((c.toNat:Int)+1) ((d.toNat:Int)+1)=1 by unfold sgnI;rw [if_neg oM,if_pos oM]]
   simp [h1,h2,h4];rfl
mutual
theorem ser_lex:∀ (a b:TT) (x y:List Int),lexI (ser a++x) (ser b++y)=thn (cmpT a b) (lexI x y)
 | .mk k n s ks,.mk k' n' s' ks',x,y=>by
  rw [ser,ser,cmpT]
  show thn (sgnI k k') (thn (sgnI n n') (lexI (serB s++serL ks++x) (serB s'++serL ks'++y)))=_
  rw [List.append_assoc,List.append_assoc,serB_lex,serL_lex ks ks' x y,← thn_assoc,← thn_assoc,← thn_assoc,thn_assoc,thn_assoc,thn_assoc,thn_assoc,thn_assoc,thn_assoc]
theorem serL_lex:∀ (a b:List TT) (x y:List Int),lexI (serL a++x) (serL b++y)=thn (cmpL a b) (lexI x y)
 | [],[],x,y=>by rw [serL,cmpL]; rfl
 | [],d::t,x,y=>by rw [serL,serL,cmpL]; rfl
 | c::s,[],x,y=>by rw [serL,serL,cmpL]; rfl
 | c::s,d::t,x,y=>by
  rw [serL,serL,cmpL]
  show thn (sgnI 1 1) (lexI (ser c++serL s++x) (ser d++serL t++y))=_
  rw [List.append_assoc,List.append_assoc,ser_lex c d,serL_lex s t x y,thn_assoc];rfl
end
theorem ser_cmp (a b:TT):cmpT a b=lexI (ser a) (ser b):=by
 have:=ser_lex a b [] []
 rw [List.append_nil,List.append_nil] at this
 rw [this];unfold thn lexI;split<;>simp_all
theorem lexI_self:∀ a,lexI a a=0
 | []=>rfl
 | x::r=>by rw [lexI,sgnI_self,thn_0]; exact lexI_self r
theorem lexI_eq:∀ {a b:List Int},lexI a b=0→a=b
 | [],[],_=>rfl
 | [],y::t,h=>by rw [lexI] at h; cases h
 | x::r,[],h=>by rw [lexI] at h; cases h
 | x::r,y::t,h=>by
  rw [lexI] at h
  unfold thn at h
  split at h
  ·rename_i h1;rw [sgnI_0.1 h1,lexI_eq h]
  ·contradiction
theorem sgnI_lt {a b:Int}:sgnI a b<0↔a<b:=by unfold sgnI;split<;>(try split)<;>omega
theorem sgnI_gt {a b:Int}:0<sgnI a b↔b<a:=by unfold sgnI;split<;>(try split)<;>omega
theorem lexI_trans:∀ {a b c:List Int},lexI a b<0→lexI b c<0→lexI a c<0
 | [],[],c,h,_=>by rw [lexI] at h; omega
 | [],y::t,[],_,h=>by rw [lexI] at h; omega
 | [],y::t,z::u,_,_=>by rw [lexI]; omega
 | x::r,[],c,h,_=>by rw [lexI] at h; omega
 | x::r,y::t,[],_,h=>by rw [lexI] at h; omega
 | x::r,y::t,z::u,h,k=>by
  rw [lexI] at h k ⊢
  unfold thn at h k ⊢
  by_cases h1:sgnI x y=0
  ·rw [if_pos h1] at h
   obtain rfl:=sgnI_0.1 h1
   by_cases h2:sgnI x z=0
   ·rw [if_pos h2] at k ⊢
    exact lexI_trans h k
   ·rw [if_neg h2] at k ⊢
    exact k
  ·rw [if_neg h1] at h
   have h:=sgnI_lt.1 h
   by_cases h2:sgnI y z=0
   ·obtain rfl:=sgnI_0.1 h2
    rw [if_neg h1];exact sgnI_lt.2 h
   ·rw [if_neg h2] at k
    have k:=sgnI_lt.1 k
    rw [if_neg (by intro e;have:=sgnI_0.1 e;omega)]
    exact sgnI_lt.2 oM
theorem lexI_anti:∀ (a b:List Int),lexI a b<0↔0<lexI b a
 | [],[]=>by simp [lexI]
 | [],y::t=>by simp [lexI]
 | x::r,[]=>by simp [lexI]
 | x::r,y::t=>by
  rw [lexI,lexI]
  unfold thn
  by_cases h1:x=y
  ·subst h1
   rw [sgnI_self,if_pos rfl,if_pos rfl];exact lexI_anti r t
  ·rw [if_neg (fun e=>h1 (sgnI_0.1 e)),if_neg (fun e=>h1 (sgnI_0.1 e).symm),sgnI_lt,sgnI_gt]
mutual
theorem cmpT_eq0:∀ (a b:TT),cmpT a b=0→a=b
 | .mk k n s ks,.mk k' n' s' ks',h=>by
  rw [cmpT] at h
  unfold thn at h
  split at h
  ·rename_i h1
   split at h
   ·rename_i h2
    split at h
    ·rename_i h3
     have e:s=s':=by
      have:=serB_lex s s' [] []
      rw [h3] at this
      have:=lexI_eq (show lexI (serB s++[]) (serB s'++[])=0 from this)
      rw [List.append_nil,List.append_nil] at this
      unfold serB at this
      have:=(List.append_inj' this rfl).1
      exact List.map_inj_right (fun x y h=>UInt8.toNat_inj.1 oM) |>.1 this
     rw [sgnI_0.1 h1,sgnI_0.1 h2,e,cmpL_eq0 ks ks' h]
    ·contradiction
   ·contradiction
  ·contradiction
theorem cmpL_eq0:∀ (a b:List TT),cmpL a b=0→a=b
 | [],[],_=>rfl
 | [],y::t,h=>by rw [cmpL] at h; cases h
 | x::r,[],h=>by rw [cmpL] at h; cases h
 | x::r,y::t,h=>by
  rw [cmpL] at h
  unfold thn at h
  split at h
  ·rename_i h1;rw [cmpT_eq0 x y h1,cmpL_eq0 r t h]
  ·contradiction
end
theorem cmpT_self (a:TT):cmpT a a=0:=by rw [ser_cmp];exact lexI_self _
theorem cmpT_iff {a b:TT}:cmpT a b=0↔a=b:=⟨cmpT_eq0 a b,by rintro rfl;exact cmpT_self a⟩
theorem cmpT_trans {a b c:TT} (h:cmpT a b<0) (k:cmpT b c<0):cmpT a c<0:=by
 rw [ser_cmp] at *;exact lexI_trans h k
theorem cmpT_anti (a b:TT):cmpT a b<0↔0<cmpT b a:=by
 rw [ser_cmp,ser_cmp b a];exact lexI_anti _ _
theorem thn_rng {c d:Int} (hc : -1≤c∧c≤1) (hd : -1≤d∧d≤1) : -1≤thn c d∧thn c d≤1:=by unfold thn;split<;>assumption
theorem sgnI_rng (a b:Int) : -1≤sgnI a b∧sgnI a b≤1:=by unfold sgnI;split<;>(try split)<;>omega
theorem lexI_rng:∀ a b,-1≤lexI a b∧lexI a b≤1
 | [],[]=>by rw [lexI]; omega
 | [],_::_=>by rw [lexI]; omega
 | _::_,[]=>by rw [lexI]; omega
 | x::r,y::t=>by rw [lexI]; exact thn_rng (sgnI_rng x y) (lexI_rng r t)
theorem cmpT_rng (a b:TT) : -1≤cmpT a b∧cmpT a b≤1:=by rw [ser_cmp];exact lexI_rng _ _
mutual
def Rep:TT→KT→Prop
 | .mk k n s ks,x=>x.k=k∧x.n=n∧x.s=s∧x.m=ks.length∧RepL ks x.f 0
def RepL:List TT→(Nat→Nat→Cell)→Nat→Prop
 | [],_,_=>True
 | t::r,f,i=>(∃ y:KT,[f i 0,f i 1,f i 2,f i 3]=encK y∧Rep t y)∧RepL r f (i+1)
end
theorem Rep_eq (t:TT) (x:KT):Rep t x↔x.k=t.k∧x.n=t.n∧x.s=t.s∧x.m=t.kids.length∧RepL t.kids x.f 0:=by
 cases t;rw [Rep];exact Iff.rfl
theorem RepL_at:∀ {ks:List TT} {f:Nat→Nat→Cell} {i:Nat},RepL ks f i→∀ j,j<ks.length→∃ y:KT,[f (i+j) 0,f (i+j) 1,f (i+j) 2,f (i+j) 3]=encK y∧Rep (ks.getD j .nil) y
 | [],f,i,_,j,hj=>by simp at hj
 | t::r,f,i,h,0,hj=>by rw [RepL] at h; exact h.1
 | t::r,f,i,h,j+1,hj=>by
  rw [RepL] at h
  have:=RepL_at h.2 j (by simpa using hj)
  rw [show i+1+j=i+(j+1) by omega] at this
  exact this
theorem RepL_of:∀ {ks:List TT} {f:Nat→Nat→Cell} {i:Nat},(∀ j,j<ks.length→∃ y:KT,[f (i+j) 0,f (i+j) 1,f (i+j) 2,f (i+j) 3]=encK y∧Rep (ks.getD j .nil) y)→RepL ks f i
 | [],f,i,_=>by rw [RepL]; trivial
 | t::r,f,i,h=>by
  rw [RepL]
  exact ⟨h 0 (by simp),RepL_of fun j hj=>by
   have:=h (j+1) (by simpa using hj)
   rw [show i+(j+1)=i+1+j by omega] at this
   exact this⟩
def toT:Tm→TT
 | .at_ s => .mk 1 0 s []
 | .no n => .mk 2 (n:Int) [] []
 | .one k t => .mk k 0 [] [toT t]
 | .two k a b => .mk k 0 [] [toT a,toT b]
theorem Rep_toK:∀ t:Tm,Rep (toT t) (toK t)
 | .at_ s=>by rw [toT,toK,Rep]; exact ⟨rfl,rfl,rfl,rfl,by rw [RepL]; trivial⟩
 | .no n=>by rw [toT,toK,Rep]; exact ⟨rfl,rfl,rfl,rfl,by rw [RepL]; trivial⟩
 | .one k t=>by
  rw [toT,toK,Rep]
  refine ⟨rfl,rfl,rfl,rfl,?_⟩
  rw [RepL,RepL]
  exact ⟨⟨toK t,rfl,Rep_toK t⟩,trivial⟩
 | .two k a b=>by
  rw [toT,toK,Rep]
  refine ⟨rfl,rfl,rfl,rfl,?_⟩
  rw [RepL,RepL,RepL]
  exact ⟨⟨toK a,rfl,Rep_toK a⟩,⟨toK b,rfl,Rep_toK b⟩,trivial⟩
end Go.Proofs.Tw
end
section
open Go Go.Sv Go.RowKit
namespace Go.Proofs.Tw
attribute [local irreducible] Wp FinQ resV Ent Pur Go.Sv.Fn Sat0
set_option maxRecDepth 100000
set_option maxHeartbeats 4000000
variable {G:Nat→Option (List Cell)}
theorem sign1_ok (a b:Bool):Pur Tryz.prog G 139 [.c (.bool a),.c (.bool b)] [.c (.int .i64 (if a then -1 else if b then 1 else 0))]:=by
 refine zp Tryz.func139 ?_
 cases a
 ·cases b
  ·refine zg [] [false,false] [false=false,false=false] ⟨rfl,rfl⟩ ?_
   exact zr
  ·refine zg [] [false,true] [false=false,true=true] ⟨rfl,rfl⟩ ?_
   exact zr
 ·refine zg [] [true] [true=true] rfl ?_
  exact zr
theorem signI_ok (a b:Int):Pur Tryz.prog G 139 [.c (.bool (decide (a<b))),.c (.bool (decide (a>b)))] [.c (.int .i64 (sgnI a b))]:=by
 have:=sign1_ok (G:=G) (decide (a<b)) (decide (a>b))
 rw [show (if decide (a<b)=true then (-1:Int) else if decide (a>b)=true then 1 else 0)=sgnI a b by unfold sgnI;simp only [decide_eq_true_eq,gt_iff_lt]] at this
 exact this
theorem less_gt:∀ a b:List UInt8,(!(Op.bytesLess a b||a==b))=Op.bytesLess b a
 | [],[]=>rfl
 | [],y::t=>rfl
 | x::r,[]=>rfl
 | x::r,y::t=>by
  have ih:=less_gt r t
  simp only [Op.bytesLess,List.cons_beq_cons]
  rcases Nat.lt_trichotomy x.toNat y.toNat with h | h | h
  ·have h1:x<y:=h
   have h2:¬ y<x:=by intro h3;have:y.toNat<x.toNat:=h3;omega
   have h4:(y==x)=false:=by rw [beq_eq_false_iff_ne];rintro rfl;omega
   simp [h1,h2,h4]
  ·have h1:x=y:=UInt8.toNat_inj.1 h
   subst h1
   simpa using ih
  ·have h1:y<x:=h
   have h2:¬ x<y:=by intro h3;have:x.toNat<y.toNat:=h3;omega
   have h4:(x==y)=false:=by rw [beq_eq_false_iff_ne];rintro rfl;omega
   simp [h1,h2,h4]
theorem signB_ok (a b:List UInt8):Pur Tryz.prog G 139 [.c (.bool (Op.bytesLess a b)),.c (.bool (!(Op.bytesLess a b||a==b)))] [.c (.int .i64 (sgnB a b))]:=by
 rw [less_gt];exact sign1_ok (G:=G) _ _
theorem cmpL_drop {a b:List TT} {i:Nat} (h1:i<a.length) (h2:i<b.length):cmpL (a.drop i) (b.drop i)=thn (cmpT (a.getD i .nil) (b.getD i .nil)) (cmpL (a.drop (i+1)) (b.drop (i+1))):=by
 rw [List.drop_eq_getElem_cons h1,List.drop_eq_getElem_cons h2,cmpL]
 simp [List.getD,h1,h2]
theorem cmpL_end {a b:List TT} {i:Nat} (h1:i≤a.length) (h2:i≤b.length) (h:i=a.length∨i=b.length):cmpL (a.drop i) (b.drop i)=sgnI (a.length:Int) (b.length:Int):=by
 have e1:=List.length_drop (i:=i) (l:=a)
 have e2:=List.length_drop (i:=i) (l:=b)
 cases ha:a.drop i with
 | nil =>
  rw [ha] at e1
  cases hb:b.drop i with
  | nil=>rw [hb] at e2; rw [cmpL]; unfold sgnI; simp at e1 e2; rw [if_neg oM,if_neg oM]
  | cons y t=>rw [hb] at e2; rw [cmpL]; unfold sgnI; simp at e1 e2; rw [if_pos oM]
 | cons x r =>
  rw [ha] at e1
  cases hb:b.drop i with
  | nil=>rw [hb] at e2; rw [cmpL]; unfold sgnI; simp at e1 e2; rw [if_neg oM,if_pos oM]
  | cons y t=>rw [hb] at e2; simp at e1 e2; omega
theorem order_main (a b:TT) (x y:KT) (ha:Rep a x) (hb:Rep b y) (hla:a.kids.length≤1000000) (hlb:b.kids.length≤1000000)
  (ih:∀ i,i<a.kids.length→i<b.kids.length→∀ u v,Rep (a.kids.getD i .nil) u→Rep (b.kids.getD i .nil) v→Pur Tryz.prog G 86 [.agg (encK u),.agg (encK v)] [.c (.int .i64 (cmpT (a.kids.getD i .nil) (b.kids.getD i .nil)))]) :
  Pur Tryz.prog G 86 [.agg (encK x),.agg (encK y)] [.c (.int .i64 (cmpT a b))]:=by
 refine zp Tryz.func86 ?_
 obtain ⟨a1,a2,a3,a4,a5⟩:=(Rep_eq a x).1 ha
 obtain ⟨b1,b2,b3,b4,b5⟩:=(Rep_eq b y).1 hb
 have c1:=signI_ok (G:=G) x.k y.k
 have c2:=signI_ok (G:=G) x.n y.n
 have c3:=signB_ok (G:=G) x.s y.s
 have c4:=signI_ok (G:=G) (x.m:Int) (y.m:Int)
 have hR:cmpT a b=thn (sgnI x.k y.k) (thn (sgnI x.n y.n) (thn (sgnB x.s y.s) (cmpL a.kids b.kids))):=by rw [cmpT_eq,a1,a2,a3,b1,b2,b3]
 rw [hR]
 clear hR
 generalize sgnI x.k y.k=v1 at *
 generalize sgnI x.n y.n=v2 at *
 generalize sgnB x.s y.s=v3 at *
 have hpick:∀ v:Int,(v==0)=false→(bif bif decide ((0:Int)<(x.m:Int)) then decide ((0:Int)<(y.m:Int)) else false then v==0 else false)=false:=fun v h=>by rw [h];cases (bif decide ((0:Int)<(x.m:Int)) then decide ((0:Int)<(y.m:Int)) else false)<;>rfl
 by_cases h1:v1=0
 ·subst h1
  rw [thn_0]
  by_cases h2:v2=0
  ·subst h2
   rw [thn_0]
   refine zg [(1,{cs:=[(10,pc c1)]}),(3,{cs:=[(10,pc c2)]}),(5,{cs:=[(10,pc c3)]})] [true,true] [((0:Int)==(0:Int))=true,((0:Int)==(0:Int))=true] ⟨rfl,rfl⟩ ?_
   refine zl (fun (z:Nat×Int)=>⟨[(2,.v (.c (.ptr 0 0))),(3,.v (.c (.ptr 16 0))),(5,.v (.c (.int .i64 z.2))),(6,.v (.c (.int .i64 (z.1:Int))))],[(0,.box 64 (encK x)),(16,.box 64 (encK y))],704⟩) (fun z=>z.1≤a.kids.length∧z.1≤b.kids.length∧(z.2=0→cmpL (a.kids.drop z.1) (b.kids.drop z.1)=thn v3 (cmpL a.kids b.kids))∧(z.2≠0→thn v3 (cmpL a.kids b.kids)=z.2)) (fun z=>a.kids.length-z.1) (0,v3) ⟨Nat.zero_le _,Nat.zero_le _,(fun h=>by rw [show v3=0 from h];rfl),(fun h=>if_neg h)⟩ ?_
   generalize thn v3 (cmpL a.kids b.kids)=R at *
   rintro ⟨i,c⟩ L ⟨h3,h4,h5,h6⟩ again
   simp only at h3 h4 h5 h6
   by_cases hc:c=0
   ·have h7:=h5 hc
    clear h5 h6
    subst hc
    have h5:=h7
    clear h7
    have h6:True:=trivial
    rcases Nat.lt_or_ge i a.kids.length with hi | hi
    ·rcases Nat.lt_or_ge i b.kids.length with hj | hj
     ·obtain ⟨u,u1,u2⟩:=RepL_at a5 i hi
      obtain ⟨v,w1,w2⟩:=RepL_at b5 i hj
      rw [Nat.zero_add] at u1 w1
      have c5:=ih i hi hj u v u2 w2
      rw [cmpL_drop hi hj] at h5
      generalize cmpT (a.kids.getD i .nil) (b.kids.getD i .nil)=c' at c5 h5
      have e1:EqvD (.agg [x.f i 0,x.f i 1,x.f i 2,x.f i 3]) (.agg (encK u)):=eqvD_of (by rw [u1])
      have e2:EqvD (.agg [y.f i 0,y.f i 1,y.f i 2,y.f i 3]) (.agg (encK v)):=eqvD_of (by rw [w1])
      have hp:(bif bif decide ((i:Int)<(x.m:Int)) then decide ((i:Int)<(y.m:Int)) else false then (0:Int)==0 else false)=true:=by rw [decide_eq_true (show (i:Int)<(x.m:Int) by omega),decide_eq_true (show (i:Int)<(y.m:Int) by omega)];rfl
      have g3:(i+1≤a.kids.length∧i+1≤b.kids.length∧(c'=0→cmpL (a.kids.drop (i+1)) (b.kids.drop (i+1))=R)∧(c'≠0→R=c')):=⟨hi,hj,fun h=>by subst h;exact (thn_0 _).symm.trans h5,fun h=>h5.symm.trans (if_neg h)⟩
      clear hpick ih a5 b5 h5 h6 u1 w1 u2 w2
      refine zg [(9,{cs:=[(10,pc c5)],fm:=[(4,.agg (encK u)),(9,.agg (encK v))]})] [true] [(bif bif decide ((i:Int)<(x.m:Int)) then decide ((i:Int)<(y.m:Int)) else false then (0:Int)==(0:Int) else false)=true,(0:Int)≤(i:Int)∧(i:Int)<(x.m:Int),EqvD (.agg [x.f i 0,x.f i (0+1),x.f i (0+1+1),x.f i (0+1+1+1)]) (.agg (encK u)),(0:Int)≤(i:Int)∧(i:Int)<(y.m:Int),EqvD (.agg [y.f i 0,y.f i (0+1),y.f i (0+1+1),y.f i (0+1+1+1)]) (.agg (encK v)),inR .i64 ((i:Int)+1)] ⟨aS,oM,aS,oM,aS,i6⟩ ?_
      exact za [] (again _ (i+1,c') oM oM)
     ·rw [cmpL_end h3 h4 oM,← a4,← b4] at h5
      rw [h5] at c4
      have hp:(bif bif decide ((i:Int)<(x.m:Int)) then decide ((i:Int)<(y.m:Int)) else false then (0:Int)==0 else false)=false:=by rw [decide_eq_false (show ¬ (i:Int)<(y.m:Int) by omega)];cases decide ((i:Int)<(x.m:Int))<;>rfl
      clear hpick ih a5 b5 h5 h6 again
      refine zg [(11,{cs:=[(14,pc c4)]})] [false,true] [(bif bif decide ((i:Int)<(x.m:Int)) then decide ((i:Int)<(y.m:Int)) else false then (0:Int)==(0:Int) else false)=false,((0:Int)==(0:Int))=true] ⟨aS,rfl⟩ ?_
      exact zr
    ·rw [cmpL_end h3 h4 oM,← a4,← b4] at h5
     rw [h5] at c4
     have hp:(bif bif decide ((i:Int)<(x.m:Int)) then decide ((i:Int)<(y.m:Int)) else false then (0:Int)==0 else false)=false:=by rw [decide_eq_false (show ¬ (i:Int)<(x.m:Int) by omega)];rfl
     clear hpick ih a5 b5 h5 h6 again
     refine zg [(11,{cs:=[(14,pc c4)]})] [false,true] [(bif bif decide ((i:Int)<(x.m:Int)) then decide ((i:Int)<(y.m:Int)) else false then (0:Int)==(0:Int) else false)=false,((0:Int)==(0:Int))=true] ⟨aS,rfl⟩ ?_
     exact zr
   ·rw [h6 hc]
    have hc':(c==0)=false:=by simpa using hc
    have hp:(bif bif decide ((i:Int)<(x.m:Int)) then decide ((i:Int)<(y.m:Int)) else false then c==0 else false)=false:=by rw [hc'];cases (bif decide ((i:Int)<(x.m:Int)) then decide ((i:Int)<(y.m:Int)) else false)<;>rfl
    clear hpick ih a5 b5 h5 h6 again hc
    refine zg [] [false,false] [(bif bif decide ((i:Int)<(x.m:Int)) then decide ((i:Int)<(y.m:Int)) else false then c==(0:Int) else false)=false,(c==(0:Int))=false] ⟨aS,(show (c==(0:Int))=false from aS)⟩ ?_
    exact zr
  ·have h2':(v2==0)=false:=by simpa using h2
   have e:thn v2 (thn v3 (cmpL a.kids b.kids))=v2:=by unfold thn;rw [if_neg h2]
   have hp:=hpick v2 h2'
   rw [e]
   clear e ih hpick h2
   refine zg [(1,{cs:=[(10,pc c1)]}),(3,{cs:=[(10,pc c2)]})] [true,false] [((0:Int)==(0:Int))=true,(v2==(0:Int))=false] ⟨rfl,(show (v2==(0:Int))=false from aS)⟩ ?_
   refine Wp.unrK kR 1 (fun UL0 uUL0 => ?_)
   refine zg [] [false,false] [(bif bif decide ((0:Int)<(x.m:Int)) then decide ((0:Int)<(y.m:Int)) else false then v2==(0:Int) else false)=false,(v2==(0:Int))=false] ⟨aS,(show (v2==(0:Int))=false from aS)⟩ ?_
   exact zr
 ·have h1':(v1==0)=false:=by simpa using h1
  have e:thn v1 (thn v2 (thn v3 (cmpL a.kids b.kids)))=v1:=by unfold thn;rw [if_neg h1]
  have hp:=hpick v1 h1'
  rw [e]
  clear e ih hpick h1
  refine zg [(1,{cs:=[(10,pc c1)]})] [false,false] [(v1==(0:Int))=false,(v1==(0:Int))=false] ⟨aS,(show (v1==(0:Int))=false from aS)⟩ ?_
  refine Wp.unrK kR 1 (fun UL0 uUL0 => ?_)
  refine zg [] [false,false] [(bif bif decide ((0:Int)<(x.m:Int)) then decide ((0:Int)<(y.m:Int)) else false then v1==(0:Int) else false)=false,(v1==(0:Int))=false] ⟨aS,(show (v1==(0:Int))=false from aS)⟩ ?_
  exact zr
inductive LowR:TT→Prop
 | mk {t:TT}:t.kids.length≤1000000→(∀ x∈t.kids,LowR x)→LowR t
theorem LowR.len {t:TT} (h:LowR t):t.kids.length≤1000000:=by cases h;assumption
theorem LowR.kid {t:TT} (h:LowR t) {i:Nat} (hi:i<t.kids.length):LowR (t.kids.getD i .nil):=by
 cases h with
 | mk _ h=>exact h _ (by rw [List.getD_eq_getElem?_getD,List.getElem?_eq_getElem hi]; exact List.getElem_mem hi)
theorem order_ok {a:TT} (ha:LowR a):∀ {b:TT} (x y:KT),LowR b→Rep a x→Rep b y→Pur Tryz.prog G 86 [.agg (encK x),.agg (encK y)] [.c (.int .i64 (cmpT a b))]:=by
 induction ha with
 | @mk t h1 h2 ih =>
  intro b x y hb hx hy
  refine order_main t b x y hx hy h1 hb.len fun i hi hj u v hu hv => ?_
  exact ih _ (by rw [List.getD_eq_getElem?_getD,List.getElem?_eq_getElem hi];exact List.getElem_mem hi) u v (hb.kid hj) hu hv
theorem same1_ok {a b:TT} (x y:KT) (ha:LowR a) (hb:LowR b) (hx:Rep a x) (hy:Rep b y):Pur Tryz.prog G 35 [.agg (encK x),.agg (encK y)] [.c (.bool (cmpT a b==0))]:=by
 refine zp Tryz.func35 ?_
 have c:=order_ok (G:=G) ha x y hb hx hy
 refine z0 [(1,{cs:=[(2,pc c)]})] [] ?_
 exact zr
theorem less1_ok {a b:TT} (x y:KT) (ha:LowR a) (hb:LowR b) (hx:Rep a x) (hy:Rep b y):Pur Tryz.prog G 198 [.agg (encK x),.agg (encK y)] [.c (.bool (decide (cmpT a b<0)))]:=by
 refine zp Tryz.func198 ?_
 have c:=order_ok (G:=G) ha x y hb hx hy
 refine z0 [(1,{cs:=[(2,pc c)]})] [] ?_
 exact zr
theorem low_toT:∀ t:Tm,LowR (toT t)
 | .at_ s=>by rw [toT]; exact .mk (by show 0≤_; omega) (fun x hx=>by cases hx)
 | .no n=>by rw [toT]; exact .mk (by show 0≤_; omega) (fun x hx=>by cases hx)
 | .one k t=>by rw [toT]; exact .mk (by show 1≤_; omega) (fun x hx=>by rcases List.mem_singleton.1 hx with rfl; exact low_toT t)
 | .two k a b=>by
  rw [toT]
  refine .mk (by show 2≤_;omega) (fun x hx => ?_)
  have hx:x∈[toT a,toT b]:=hx
  simp only [List.mem_cons,List.not_mem_nil,or_false] at hx
  rcases hx with rfl | rfl
  ·exact low_toT a
  ·exact low_toT b
theorem cmpI_eq (a b:Int):Lib.compareInt a b=sgnI a b:=by
 unfold Lib.compareInt sgnI
 rcases Int.lt_trichotomy a b with h | h | h
 ·simp [h]
 ·subst h;simp
 ·have:¬ a<b:=by omega
  simp [this,h]
theorem cmpB_eq:∀ a b:List UInt8,Lib.compareBytes a b=sgnB a b
 | [],[]=>rfl
 | [],y::t=>rfl
 | x::r,[]=>rfl
 | x::r,y::t=>by
  unfold Lib.compareBytes sgnB
  rw [cmpB_eq r t]
  simp only [Op.bytesLess]
  rcases Nat.lt_trichotomy x.toNat y.toNat with h | h | h
  ·have h1:x<y:=h
   simp [h1]
  ·have h1:x=y:=UInt8.toNat_inj.1 h
   subst h1
   simp [sgnB]
  ·have h1:y<x:=h
   have h2:¬ x<y:=by intro h3;have:x.toNat<y.toNat:=h3;omega
   have h4:(x==y)=false:=by rw [beq_eq_false_iff_ne];rintro rfl;omega
   simp [h1,h2,h4]
theorem cmpI_ok (a b:Int):Pur Tryz.prog G 195 [.c (.int .i64 a),.c (.int .i64 b)] [.c (.int .i64 (sgnI a b))]:=by
 refine Pur.of_below rfl ?_
 intro D ρ w vs h1 _ _ _
 obtain ⟨u,v,rfl,hu,hv⟩:=h1.two
 have hu:u = .int .i64 a:=hu
 have hv:v = .int .i64 b:=hv
 subst hu hv
 refine (Go.Proofs.Tryz.cmp_Compare_int a b w).mono ?_
 rintro e w' ⟨rfl,rfl⟩
 rw [cmpI_eq]
 exact ⟨_,rfl,by simp [ResDen,DenV,Den],BelowD.refl _ _⟩
theorem cmpS_ok (a b:List UInt8):Pur Tryz.prog G 196 [.c (.str a),.c (.str b)] [.c (.int .i64 (sgnB a b))]:=by
 refine Pur.of_below rfl ?_
 intro D ρ w vs h1 _ _ _
 obtain ⟨u,v,rfl,hu,hv⟩:=h1.two
 have hu:u = .string ⟨a.toArray⟩:=hu
 have hv:v = .string ⟨b.toArray⟩:=hv
 subst hu hv
 refine (Go.Proofs.Tryz.strings_Compare ⟨a.toArray⟩ ⟨b.toArray⟩ w).mono ?_
 rintro e w' ⟨rfl,rfl⟩
 rw [← cmpB_eq]
 exact ⟨_,rfl,by simp [ResDen,DenV,Den],BelowD.refl _ _⟩
def orL:List Int→Int
 | []=>0
 | x::r=>thn x (orL r)
theorem or_ok (l:List Int) (hl:l.length≤1000):Pur Tryz.prog G 194 [.c (.sl 1 l.length (intsF l))] [.c (.int .i64 (orL l))]:=by
 refine zp Tryz.func194 ?_
 refine z0 [] [] ?_
 refine zl (fun (k:Nat)=>⟨[(3,.v (.c (.int .i64 0))),(6,.v (.c (.sl 1 l.length (intsF l)))),(7,.v (.c (.int .i64 (l.length:Int)))),(8,.v (.c (.int .i64 (k:Int))))],[],80⟩) (fun k=>k≤l.length∧orL l=orL (l.drop k)) (fun k=>l.length-k) 0 ⟨Nat.zero_le _,rfl⟩ ?_
 rintro k L ⟨hk,hq⟩ again
 rw [hq]
 rcases Nat.lt_or_ge k l.length with hlt | hge
 ·have e:l.drop k=l.getD k 0::l.drop (k+1):=by rw [List.drop_eq_getElem_cons hlt];simp [List.getD,hlt]
  rw [e,orL] at hq ⊢
  by_cases h0:l.getD k 0=0
  ·rw [h0,thn_0] at hq ⊢
   have h0':(l.getD k 0 != 0)=false:=by rw [h0];rfl
   clear e h0
   refine zg [] [true,false] [decide ((k:Int)<(l.length:Int))=true,(0:Int)≤(k:Int)∧(k:Int)<(l.length:Int),(l.getD k (0:Int) != (0:Int))=false,inR .i64 ((k:Int)+1)] ⟨sO,oM,aS,i6⟩ ?_
   exact za [] (again _ (k+1) oM oM)
  ·have h0':(l.getD k 0 != 0)=true:=by simpa using h0
   rw [show thn (l.getD k 0) (orL (l.drop (k+1)))=l.getD k 0 from if_neg h0]
   clear e h0 hq again
   refine zg [] [true,true] [decide ((k:Int)<(l.length:Int))=true,(0:Int)≤(k:Int)∧(k:Int)<(l.length:Int),(l.getD k (0:Int) != (0:Int))=true] ⟨sO,oM,(show (l.getD k (0:Int) != (0:Int))=true from aS)⟩ ?_
   exact zr
 ·rw [List.drop_eq_nil_of_le hge,orL]
  clear hq again
  refine zg [] [false] [decide ((k:Int)<(l.length:Int))=false] (oN sO) ?_
  exact zr
def fnC (f:FuncId):Cell := .clo f 0 (fun _=>none) (fun _ _ => .nilif)
theorem cmpF_ok (a b:List TT) (n m:Nat) (f g:Nat→Nat→Cell) (hn:n=a.length) (hm:m=b.length) (hf:RepL a f 0) (hg:RepL b g 0) (hla:a.length≤1000000) (hlb:b.length≤1000000)
  (ih:∀ i,i<a.length→i<b.length→∀ u v,Rep (a.getD i .nil) u→Rep (b.getD i .nil) v→Pur Tryz.prog G 151 [.agg (encK u),.agg (encK v)] [.c (.int .i64 (cmpT (a.getD i .nil) (b.getD i .nil)))]) :
  Pur Tryz.prog G 197 [.c (.sl 4 n f),.c (.sl 4 m g),.c (fnC 151)] [.c (.int .i64 (cmpL a b))]:=by
 refine zp Tryz.func197 ?_
 refine z0 [] [] ?_
 refine zl (fun (k:Nat)=>⟨[(0,.v (.c (.sl 4 n f))),(1,.v (.c (.sl 4 m g))),(2,.v (.c (fnC 151))),(11,.v (.c (.sl 4 n f))),(12,.v (.c (.int .i64 (n:Int)))),(13,.v (.c (.int .i64 (k:Int))))],[],64⟩) (fun k=>k≤a.length∧k≤b.length∧cmpL a b=cmpL (a.drop k) (b.drop k)) (fun k=>a.length-k) 0 ⟨Nat.zero_le _,Nat.zero_le _,rfl⟩ ?_
 rintro k L ⟨h1,h2,h3⟩ again
 rw [h3]
 rcases Nat.lt_or_ge k a.length with hi | hi
 ·rcases Nat.lt_or_ge k b.length with hj | hj
  ·obtain ⟨u,u1,u2⟩:=RepL_at hf k hi
   obtain ⟨v,w1,w2⟩:=RepL_at hg k hj
   rw [Nat.zero_add] at u1 w1
   have c5:=ih k hi hj u v u2 w2
   rw [cmpL_drop hi hj] at h3 ⊢
   generalize cmpT (a.getD k .nil) (b.getD k .nil)=c' at c5 h3 ⊢
   have e1:EqvD (.agg [f k 0,f k 1,f k 2,f k 3]) (.agg (encK u)):=eqvD_of (by rw [u1])
   have e2:EqvD (.agg [g k 0,g k 1,g k 2,g k 3]) (.agg (encK v)):=eqvD_of (by rw [w1])
   by_cases h0:c'=0
   ·subst h0
    rw [thn_0] at h3 ⊢
    clear ih hf hg u1 w1 u2 w2
    refine zg [(3,{fm:=[(2,.agg (encK u))]}),(6,{fm:=[(3,.agg (encK v))]}),(7,{cs:=[(3,pc c5)]})] [true,false,false] [decide ((k:Int)<(n:Int))=true,(0:Int)≤(k:Int)∧(k:Int)<(n:Int),EqvD (.agg [f k 0,f k (0+1),f k (0+1+1),f k (0+1+1+1)]) (.agg (encK u)),decide ((k:Int)≥(m:Int))=false,(0:Int)≤(k:Int)∧(k:Int)<(m:Int),EqvD (.agg [g k 0,g k (0+1),g k (0+1+1),g k (0+1+1+1)]) (.agg (encK v)),((0:Int) != (0:Int))=false,inR .i64 ((k:Int)+1)] ⟨sO,oM,aS,sO,oM,aS,rfl,i6⟩ ?_
    exact za [] (again _ (k+1) oM oM)
   ·have h0':(c' != 0)=true:=by simpa using h0
    rw [show thn c' (cmpL (a.drop (k+1)) (b.drop (k+1)))=c' from if_neg h0]
    clear ih hf hg u1 w1 u2 w2 h3 again h0
    refine zg [(3,{fm:=[(2,.agg (encK u))]}),(6,{fm:=[(3,.agg (encK v))]}),(7,{cs:=[(3,pc c5)]})] [true,false,true] [decide ((k:Int)<(n:Int))=true,(0:Int)≤(k:Int)∧(k:Int)<(n:Int),EqvD (.agg [f k 0,f k (0+1),f k (0+1+1),f k (0+1+1+1)]) (.agg (encK u)),decide ((k:Int)≥(m:Int))=false,(0:Int)≤(k:Int)∧(k:Int)<(m:Int),EqvD (.agg [g k 0,g k (0+1),g k (0+1+1),g k (0+1+1+1)]) (.agg (encK v)),(c' != (0:Int))=true] ⟨sO,oM,aS,sO,oM,aS,(show (c' != (0:Int))=true from aS)⟩ ?_
    exact zr
  ·obtain ⟨u,u1,u2⟩:=RepL_at hf k hi
   rw [Nat.zero_add] at u1
   have e1:EqvD (.agg [f k 0,f k 1,f k 2,f k 3]) (.agg (encK u)):=eqvD_of (by rw [u1])
   rw [cmpL_end h1 h2 oM,show sgnI (a.length:Int) (b.length:Int)=1 by unfold sgnI;rw [if_neg oM,if_pos oM]]
   clear ih hf hg u1 u2 h3 again
   refine zg [(3,{fm:=[(2,.agg (encK u))]})] [true,true] [decide ((k:Int)<(n:Int))=true,(0:Int)≤(k:Int)∧(k:Int)<(n:Int),EqvD (.agg [f k 0,f k (0+1),f k (0+1+1),f k (0+1+1+1)]) (.agg (encK u)),decide ((k:Int)≥(m:Int))=true] ⟨sO,oM,aS,(show decide ((↑k:Int)≥(↑m:Int))=true from sO)⟩ ?_
   exact zr
 ·rw [cmpL_end h1 h2 oM]
  clear ih hf hg h3 again
  by_cases hl:a.length<b.length
  ·rw [show sgnI (a.length:Int) (b.length:Int) = -1 by unfold sgnI;rw [if_pos oM]]
   refine zg [] [false,true] [decide ((k:Int)<(n:Int))=false,decide ((n:Int)<(m:Int))=true] ⟨sO,(show decide ((↑n:Int)<(↑m:Int))=true from sO)⟩ ?_
   exact zr
  ·rw [show sgnI (a.length:Int) (b.length:Int)=0 by unfold sgnI;rw [if_neg oM,if_neg oM]]
   refine zg [] [false,false] [decide ((k:Int)<(n:Int))=false,decide ((n:Int)<(m:Int))=false] ⟨sO,(show decide ((↑n:Int)<(↑m:Int))=false from sO)⟩ ?_
   exact zr
theorem thn_z (c:Int):thn c 0=c:=by
 unfold thn;split
 ·rename_i h;exact h.symm
 ·rfl
theorem compare_main (a b:TT) (x y:KT) (ha:Rep a x) (hb:Rep b y) (hla:a.kids.length≤1000000) (hlb:b.kids.length≤1000000)
  (ih:∀ i,i<a.kids.length→i<b.kids.length→∀ u v,Rep (a.kids.getD i .nil) u→Rep (b.kids.getD i .nil) v→Pur Tryz.prog G 151 [.agg (encK u),.agg (encK v)] [.c (.int .i64 (cmpT (a.kids.getD i .nil) (b.kids.getD i .nil)))]) :
  Pur Tryz.prog G 151 [.agg (encK x),.agg (encK y)] [.c (.int .i64 (cmpT a b))]:=by
 refine zp Tryz.func151 ?_
 obtain ⟨a1,a2,a3,a4,a5⟩:=(Rep_eq a x).1 ha
 obtain ⟨b1,b2,b3,b4,b5⟩:=(Rep_eq b y).1 hb
 have c1:=cmpI_ok (G:=G) x.k y.k
 have c2:=cmpI_ok (G:=G) x.n y.n
 have c3:=cmpS_ok (G:=G) x.s y.s
 have c4:=cmpF_ok a.kids b.kids x.m y.m x.f y.f a4 b4 a5 b5 hla hlb ih
 have hR:cmpT a b=orL [sgnI x.k y.k,sgnI x.n y.n,sgnB x.s y.s,cmpL a.kids b.kids]:=by
  rw [cmpT_eq,a1,a2,a3,b1,b2,b3]
  show _=thn _ (thn _ (thn _ (thn _ 0)))
  rw [thn_z]
 rw [hR]
 generalize sgnI x.k y.k=v1 at *
 generalize sgnI x.n y.n=v2 at *
 generalize sgnB x.s y.s=v3 at *
 generalize cmpL a.kids b.kids=v4 at *
 have c5:=or_ok (G:=G) [v1,v2,v3,v4] (by show 4≤1000;omega)
 have e1:EqvD (.c (.sl 1 4 (fun i j=>nthD [.int .i64 v1,.int .i64 v2,.int .i64 v3,.int .i64 v4] (i*1+j)))) (.c (.sl 1 [v1,v2,v3,v4].length (intsF [v1,v2,v3,v4]))):=by
  refine EqvD.sl rfl fun i hi j hj => ?_
  obtain rfl:j=0:=by omega
  have:i=0∨i=1∨i=2∨i=3:=by omega
  rcases this with rfl | rfl | rfl | rfl<;>rfl
 clear ih hR a5 b5
 refine zg [(1,{cs:=[(4,pc c1),(9,pc c2),(14,pc c3),(19,pc c4),(21,pc c5)],fm:=[(20,.c (.sl 1 [v1,v2,v3,v4].length (intsF [v1,v2,v3,v4])))]})] [] [EqvI (.c (.sl 1 4 fun i j=>nthD [.int .i64 v1,.int .i64 v2,.int .i64 v3,.int .i64 v4] (i*1+j))) (.c (.sl 1 [v1,v2,v3,v4].length (intsF [v1,v2,v3,v4]))),EqvD (.c (.sl 1 4 fun i j=>nthD [.int .i64 v1,.int .i64 v2,.int .i64 v3,.int .i64 v4] (i*1+j))) (.c (.sl 1 [v1,v2,v3,v4].length (intsF [v1,v2,v3,v4])))] ⟨fun _ _=>trivial,(show EqvD (.c (.sl (1:Nat) (4:Nat) fun i j=>nthD [.int .i64 v1,.int .i64 v2,.int .i64 v3,.int .i64 v4] (i*(1:Nat)+j))) (.c (.sl (1:Nat) [v1,v2,v3,v4].length (intsF [v1,v2,v3,v4]))) from aS)⟩ ?_
 exact zr
theorem compare_ok {a:TT} (ha:LowR a):∀ {b:TT} (x y:KT),LowR b→Rep a x→Rep b y→Pur Tryz.prog G 151 [.agg (encK x),.agg (encK y)] [.c (.int .i64 (cmpT a b))]:=by
 induction ha with
 | @mk t h1 h2 ih =>
  intro b x y hb hx hy
  refine compare_main t b x y hx hy h1 hb.len fun i hi hj u v hu hv => ?_
  exact ih _ (by rw [List.getD_eq_getElem?_getD,List.getElem?_eq_getElem hi];exact List.getElem_mem hi) u v (hb.kid hj) hu hv
theorem sameC_ok {a b:TT} (x y:KT) (ha:LowR a) (hb:LowR b) (hx:Rep a x) (hy:Rep b y):Pur Tryz.prog G 154 [.agg (encK x),.agg (encK y)] [.c (.bool (cmpT a b==0))]:=by
 refine zp Tryz.func154 ?_
 have c:=compare_ok (G:=G) ha x y hb hx hy
 refine z0 [(1,{cs:=[(2,pc c)]})] [] ?_
 exact zr
end Go.Proofs.Tw
end
