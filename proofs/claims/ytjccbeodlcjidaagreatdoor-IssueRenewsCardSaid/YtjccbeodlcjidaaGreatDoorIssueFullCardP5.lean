/- Own texts for this claim: Lib, Pri, Ref6, R12, Q12, P12, Rep, Tape, Bas, Q10, Uri, Tab, Http, Pct, Sgn, Pct2, Qry, Unl, Ck0, Ck1, Spl, Ck2, Ck3, Ck4, Sc, SvNext, Sw, Mrk, Mrk2, B64, Key, Sg8, D8, B6, B7, B8, Lw8, D64, Rn. -/
import Derived.Test.YtjccbeodlcjidaaGreatDoorIssueFullCardP3
import Derived.Test.YtjccbeodlcjidaaGreatDoorIssueFullCardP4
import Derived.Lib.Small
import Derived.Lib.Join
import Derived.Lib.ItoaNum
import Derived.Lib.IndexMore
import Derived.Lib.SplitLaws
import Derived.Maps.RangeRun
set_option linter.all false
section
open Go Go.Sv Go.RowKit
namespace Go.Proofs
end Go.Proofs
end
section
open Go Go.Sv
namespace Go.Proofs.Tw
attribute [local irreducible] Wp FinQ resV Ent Pur Go.Sv.Fn Sat0
set_option maxRecDepth 100000
variable {G:Nat→Option (List Cell)}
mutual
def printJ:JV→List UInt8
 | .mk k b n s ns ks=>if k==1 then [110,117,108,108] else if k==2 then Lib.formatBool b else if k==3 then Lib.itoa n else if k==4 then quotedT s else
  if k==6 then (123::Lib.join (partsJ k ns ks) [44])++[125] else (91::Lib.join (partsJ k ns ks) [44])++[93]
def partsJ:Int→List (List UInt8)→List JV→List (List UInt8)
 | _,_,[]=>[]
 | k,ns,x::r=>(if k==6 then quotedT (ns.headD [])++[58]++printJ x else printJ x)::partsJ k ns.tail r
end
def partAt (v:JV) (i:Nat):List UInt8:=if v.kind==6 then quotedT (v.names.getD i [])++[58]++printJ (v.kids.getD i .nil) else printJ (v.kids.getD i .nil)
def parts (v:JV) (k:Nat):List (List UInt8):=(List.range k).map (partAt v)
inductive Fit:JV→Prop
 | mk {v:JV} (h2:v.kids.length≤1000000000000) (h6:v.kind=6→v.kids.length≤v.names.length) (h0 : -4611686018427387904≤v.n) (h1:v.n≤4611686018427387904) (hp:(printJ v).length≤140737488355328) (h3:∀ x∈v.kids,Fit x):Fit v
def strsF (l:List (List UInt8)):Nat→Nat→Cell:=fun i _ => .str (l.getD i [])
theorem strs_app {e:TypeId} {k:Nat} (l:List (List UInt8)) (x:List UInt8) (hk:k=l.length):BlkEqv (.row e 1 (k+1) (catF k (strsF l) (fun i j=>nthD [.str x] ((0+i)*1+j)))) (.row e 1 (k+1) (strsF (l++[x]))):=by
 refine BlkEqv.row_ext rfl fun i hi j hj => ?_
 subst hk
 unfold catF
 split
 ·rename_i h;simp only [strsF,List.getD,List.getElem?_append,h,if_true]
 ·obtain ⟨h1,rfl⟩:i=l.length∧j=0:=by omega
  subst h1
  rw [Nat.sub_self]
  simp only [strsF,List.getD,List.getElem?_append,Nat.lt_irrefl,if_false,Nat.sub_self]
  rfl
end Go.Proofs.Tw
end
section
open Go Go.Sv
namespace Go.Proofs.Tw
attribute [local irreducible] Wp FinQ resV Ent Pur Go.Sv.Fn Sat0
set_option maxRecDepth 100000
variable {G:Nat→Option (List Cell)}
def r3 (c a b:Int):Int:=(c-224)*4096+a*64+b
def r4 (c a b d:Int):Int:=(c-240)*262144+a*4096+b*64+d
theorem wrap64 {n:Int} (h1 : -9223372036854775808≤n) (h2:n≤9223372036854775807):IntKind.i64.wrap n=n:=by
 simp [IntKind.wrap,IntKind.signed,IntKind.bits]
 omega
end Go.Proofs.Tw
end
section
open Go Go.Sv
namespace Go.Proofs.Tw
attribute [local irreducible] Wp FinQ resV Ent Pur Go.Sv.Fn Sat0
set_option maxRecDepth 100000
variable {G:Nat→Option (List Cell)}
def x2 (v:JV):Bool:=cond (a1 v) true (cond (v.kind != 2) v.b false)
def x3 (v:JV):Bool:=cond (x2 v) true (cond (v.kind != 3) (v.n != 0) false)
def y1 (v:JV):Bool:=cond (v.kind != 6) (decide ((v.names.length:Int)>0)) false
def y2 (v:JV):Bool:=cond (y1 v) true (cond (v.kind==6) ((v.names.length:Int) != (v.kids.length:Int)) false)
inductive Short:JV→Prop
 | mk {v:JV} (h0:v.s.length<4611686018427387904) (h1:v.names.length<4611686018427387904) (hs:∀ x∈v.names,x.length<4611686018427387904) (h2:v.kids.length<4611686018427387904) (h3:∀ x∈v.kids,Short x):Short v
end Go.Proofs.Tw
end
section
open Go Go.Sv
namespace Go.Proofs.Tw
attribute [local irreducible] Wp FinQ resV Ent Pur Go.Sv.Fn Sat0
set_option maxRecDepth 100000
variable {G:Nat→Option (List Cell)}
end Go.Proofs.Tw
end
section
open Go Go.Sv
namespace Go.Proofs.Tw
attribute [local irreducible] Wp FinQ resV Ent Pur Go.Sv.Fn Sat0
set_option maxRecDepth 100000
variable {G:Nat→Option (List Cell)}
end Go.Proofs.Tw
end
section
open Go Go.Sv
namespace Go.Proofs.Tw
attribute [local irreducible] Wp FinQ resV Ent Pur Go.Sv.Fn Sat0
set_option maxRecDepth 100000
variable {G:Nat→Option (List Cell)}
def CEq (x y:Cell):Prop:=∀ D ρ u,Den D ρ x u→Den D ρ y u
theorem CEq.nil {sz:Nat} {f:Nat→Nat→Cell}:CEq .nilsl (.sl sz 0 f):=by
 intro D ρ u h
 have h:u = .slice none 0 0:=h
 subst h
 exact ⟨none,0,rfl,Nat.le_refl _,by unfold maxLen;omega,.inl ⟨rfl,rfl⟩⟩
inductive CEqs:List Cell→List Cell→Prop
 | nil:CEqs [] []
 | cons {x y:Cell} {l l':List Cell} (h:CEq x y) (t:CEqs l l'):CEqs (x::l) (y::l')
theorem CEqs.len {l l':List Cell} (h:CEqs l l'):l.length=l'.length:=by
 induction h with
 | nil=>rfl
 | cons _ _ ih=>simp [ih]
structure FT where (name value:List UInt8)
def FT.nil:FT:=⟨[],[]⟩
structure RT where
 (status:Int) (head:List FT) (body:List UInt8)
end Go.Proofs.Tw
end
section
open Go Go.Sv Go.RowKit
namespace Go.Proofs.Tw
attribute [local irreducible] Wp FinQ resV Ent Pur Go.Sv.Fn Sat0
set_option maxRecDepth 100000
set_option maxHeartbeats 4000000
variable {G:Nat→Option (List Cell)}
def withT (at_ n:Int):Int:=if at_.tmod n<0 then at_.tmod n+n else at_.tmod n
theorem tmod_lo (a n:Int) (hn:0<n) : -n<a.tmod n:=by
 rcases Int.lt_or_le a 0 with h | h
 ·have:=Int.tmod_lt_of_pos (-a) hn
  rw [Int.neg_tmod] at this
  omega
 ·have:=Int.tmod_nonneg n h
  omega
theorem withT_rng (a n:Int) (hn:0<n):0≤withT a n∧withT a n<n:=by
 unfold withT
 have h1:=Int.tmod_lt_of_pos a hn
 have h2:=tmod_lo a n hn
 split<;>omega
theorem byte_all (p:UInt8→Bool) (h:(List.range 256).all (fun n=>p (UInt8.ofNat n))=true) (c:UInt8):p c=true:=by
 have:=List.all_eq_true.1 h c.toNat (List.mem_range.2 (UInt8.toNat_lt c))
 rwa [UInt8.ofNat_toNat] at this
theorem by_all (p q:UInt8→Bool) (h:(List.range 256).all (fun n=>p (UInt8.ofNat n)==q (UInt8.ofNat n))=true):∀ c:UInt8,[V1.c (Cell.bool (p c))]=[V1.c (Cell.bool (q c))]:=by
 intro c
 have h':p c=q c:=eq_of_beq (byte_all (fun c=>p c==q c) h c)
 rw [h']
def greatB (c:UInt8):Bool:=65≤c&&c≤90
def smallB (c:UInt8):Bool:=97≤c&&c≤122
def digitB (c:UInt8):Bool:=48≤c&&c≤57
def letterB (c:UInt8):Bool:=greatB c||smallB c
def plainB (c:UInt8):Bool:=letterB c||digitB c||[45,46,95,126].contains c
theorem great_ok (c:UInt8):Pur Tryz.prog G 153 [.c (.int .u8 (c.toNat:Int))] [.c (.bool (greatB c))]:=by
 refine zp Tryz.func153 ?_
 refine z0 [] [] ?_
 exact zS [.c (.bool (bif decide ((↑c.toNat:Int)≥(65:Int)) then decide ((↑c.toNat:Int)≤(90:Int)) else false))] (by revert c;refine by_all _ _ ?_;kernel_rfl)
theorem small_ok (c:UInt8):Pur Tryz.prog G 154 [.c (.int .u8 (c.toNat:Int))] [.c (.bool (smallB c))]:=by
 refine zp Tryz.func154 ?_
 refine z0 [] [] ?_
 exact zS [.c (.bool (bif decide ((↑c.toNat:Int)≥(97:Int)) then decide ((↑c.toNat:Int)≤(122:Int)) else false))] (by revert c;refine by_all _ _ ?_;kernel_rfl)
theorem digit_ok (c:UInt8):Pur Tryz.prog G 155 [.c (.int .u8 (c.toNat:Int))] [.c (.bool (digitB c))]:=by
 refine zp Tryz.func155 ?_
 refine z0 [] [] ?_
 exact zS [.c (.bool (bif decide ((↑c.toNat:Int)≥(48:Int)) then decide ((↑c.toNat:Int)≤(57:Int)) else false))] (by revert c;refine by_all _ _ ?_;kernel_rfl)
theorem digit6_ok (c:UInt8):Pur Tryz.prog G 100 [.c (.int .u8 (c.toNat:Int))] [.c (.bool (digitB c))]:=by
 refine zp Tryz.func100 ?_
 refine z0 [] [] ?_
 exact zS [.c (.bool (bif decide ((↑c.toNat:Int)≥(48:Int)) then decide ((↑c.toNat:Int)≤(57:Int)) else false))] (by revert c;refine by_all _ _ ?_;kernel_rfl)
theorem letter6_ok (c:UInt8):Pur Tryz.prog G 99 [.c (.int .u8 (c.toNat:Int))] [.c (.bool (letterB c))]:=by
 refine zp Tryz.func99 ?_
 refine z0 [] [] ?_
 exact zS [.c (.bool (bif bif decide ((↑c.toNat:Int)≥(65:Int)) then decide ((↑c.toNat:Int)≤(90:Int)) else false then true else bif decide ((↑c.toNat:Int)≥(97:Int)) then decide ((↑c.toNat:Int)≤(122:Int)) else false))] (by revert c;refine by_all _ _ ?_;kernel_rfl)
theorem lib_IndexByte {G:Nat→Option (List Cell)} (s:List UInt8) (c:UInt8):Pur Tryz.prog G 175 [.c (.str s),.c (.int .u8 (c.toNat:Int))] [.c (.int .i64 (Lib.indexByte s c))]:=by
 refine Pur.of_below rfl ?_
 intro D ρ w vs h1 _ _ _
 obtain ⟨u,v,rfl,hu,hv⟩:=h1.two
 have hu:u = .string ⟨s.toArray⟩:=hu
 have hv:v = .int .u8 (c.toNat:Int):=hv
 subst hu hv
 refine (Go.Proofs.Tryz.strings_IndexByte ⟨s.toArray⟩ (c.toNat:Int) w).mono ?_
 rintro e w' ⟨rfl,rfl⟩
 exact ⟨_,rfl,by simp [ResDen,DenV,Den],Below.refl _ _⟩
theorem ibeq (a b:UInt8):((a.toNat:Int)==(b.toNat:Int))=(a==b):=by
 rw [Bool.eq_iff_iff,beq_iff_eq,beq_iff_eq,Int.ofNat_inj,UInt8.toNat_inj]
theorem dropS (l:List UInt8) (k:Nat) (h:k<l.length):l.drop k=l.getD k 0::l.drop (k+1):=by
 rw [List.getD_eq_getElem?_getD,List.getElem?_eq_getElem h];exact List.drop_eq_getElem_cons h
theorem in6_ok (c:UInt8) (s:List UInt8) (hl:s.length<4611686018427387904):Pur Tryz.prog G 101 [.c (.int .u8 (c.toNat:Int)),.c (.str s)] [.c (.bool (s.contains c))]:=by
 refine zp Tryz.func101 ?_
 refine z0 [] [] ?_
 refine zl (fun (k:Nat)=>⟨[(0,.v (.c (.int .u8 (↑c.toNat:Int)))),(1,.v (.c (.str s))),(5,.v (.c (.int .i64 (k:Int))))],[],32⟩) (fun k=>k≤s.length∧s.contains c=(s.drop k).contains c) (fun k=>s.length-k) 0 ⟨Nat.zero_le _,rfl⟩ ?_
 intro k L ⟨hk,hq⟩ again
 rcases Nat.lt_or_ge k s.length with hlt | hge
 ·rw [dropS s k hlt,List.contains_cons] at hq
  refine zg [] [true] [decide ((k:Int)<(s.length:Int))=true,(0:Int)≤(k:Int)∧(k:Int)<(s.length:Int)] ⟨sO,(show (0:Int)≤(↑k:Int)∧(↑k:Int)<(↑s.length:Int) from oM)⟩ ?_
  refine zc ((↑(s.getD k (0:UInt8)).toNat:Int)==(↑c.toNat:Int)) (fun h0 => ?_) (fun h0 => ?_)
  ·have g0:=eq_of_beq h0
   refine z0 [] [] ?_
   exact zS [.c (.bool true)] (by rw [ibeq] at h0;rw [hq,eq_of_beq h0];simp)
  ·have g0:=ne_of_beq_false h0
   refine zg [] [] [inR .i64 ((k:Int)+1)] (i6) ?_
   exact za [] (again _ (k+1) ⟨hlt,(by rw [ibeq] at h0;rw [hq,show (c==s.getD k 0)=false from by rw [beq_eq_false_iff_ne] at h0 ⊢;exact fun e=>h0 e.symm];rfl)⟩ oM)
 ·obtain rfl:k=s.length:=by omega
  rw [List.drop_length] at hq
  refine zg [] [false] [decide ((s.length:Int)<(s.length:Int))=false] ((show decide ((↑s.length:Int)<(↑s.length:Int))=false from (by simp;done))) ?_
  exact zS [.c (.bool false)] (by simp_all;done)
theorem plain6_ok (c:UInt8):Pur Tryz.prog G 78 [.c (.int .u8 (c.toNat:Int))] [.c (.bool (plainB c))]:=by
 refine zp Tryz.func78 ?_
 have hl:([45,46,95,126]:List UInt8).length<4611686018427387904:=by decide
 refine z0 [(1,{cs:=[(1,pc (letter6_ok c)),(4,pc (digit6_ok c)),(8,pc (in6_ok c [(45:UInt8),46,95,126] aS))]})] [] ?_
 exact zr
theorem occ_at (s sep:List UInt8) (k:Nat) (hk:k+sep.length≤s.length):Lib.occAt s sep k=(List.drop k (List.take (k+sep.length) s)==sep):=by
 rw [Lib.occAt_iff_take s sep k hk,List.take_drop]

structure UT where
 (host path:List UInt8) (query:List FT)
end Go.Proofs.Tw
end
section
open Go Go.Sv Go.RowKit
namespace Go.Proofs.Tw
end Go.Proofs.Tw
end
section
open Go Go.Sv Go.RowKit
namespace Go.Proofs.Tw
attribute [local irreducible] Wp FinQ resV Ent Pur Go.Sv.Fn Sat0
set_option maxRecDepth 100000
set_option maxHeartbeats 4000000
variable {G:Nat→Option (List Cell)}
structure MT where
 (first:List UInt8) (head:List FT) (body:List UInt8)
def seenL (l:List (List UInt8)):List (List UInt8×V1):=l.map fun s=>(s,.c (.bool true))
theorem seenL_get (l:List (List UInt8)) (s:List UInt8):mget (seenL l) s (.c (.bool false)) = .c (.bool (l.contains s)):=by
 have:=seen_get l l.length s
 rwa [seenM,List.take_length] at this
theorem seenL_set (l:List (List UInt8)) (s:List UInt8) (h:l.contains s=false):mset (seenL l) s (.c (.bool true))=seenL (l++[s]):=by
 have:=seen_set (l++[s]) l.length (by simp) (by simpa using h)
 rw [seenM,seenM,List.take_left,show l.length+1=(l++[s]).length from by simp,List.take_length] at this
 simpa [seenL,List.getD] using this

def sixtyB (c:UInt8):Bool:=greatB c||smallB c||digitB c||c==45||c==95
theorem sixty_ok (c:UInt8):Pur Tryz.prog G 139 [.c (.int .u8 (c.toNat:Int))] [.c (.bool (sixtyB c))]:=by
 refine zp Tryz.func139 ?_
 refine z0 [(1,{cs:=[(1,pc (great_ok c)),(4,pc (small_ok c)),(8,pc (digit_ok c))]})] [] ?_
 exact zS [.c (.bool (bif bif bif bif greatB c then true else smallB c then true else digitB c then true else (↑c.toNat:Int)==(45:Int) then true else (↑c.toNat:Int)==(95:Int)))] (by revert c;refine by_all _ _ ?_;kernel_rfl)
theorem plain_ok (c:UInt8):Pur Tryz.prog G 130 [.c (.int .u8 (c.toNat:Int))] [.c (.bool (plainB c))]:=by
 refine zp Tryz.func130 ?_
 refine z0 [(1,{cs:=[(1,pc (sixty_ok c))]})] [] ?_
 exact zS [.c (.bool (bif bif sixtyB c then true else (↑c.toNat:Int)==(46:Int) then true else (↑c.toNat:Int)==(126:Int)))] (by revert c;refine by_all _ _ ?_;kernel_rfl)
theorem All_plain (s:List UInt8) (hl:s.length<4611686018427387904):Pur Tryz.prog G 129 [.c (.str s),.c (.clo 130 0 (fun _=>none) (fun _ _ => .nilif))] [.c (.bool (s.all plainB))]:=by
 refine zp Tryz.func129 ?_
 refine z0 [] [] ?_
 refine zl (fun (k:Nat)=>⟨[(0,.v (.c (.str s))),(1,.v (.c (.clo 130 (0:Nat) (fun _=>none) fun _ _ => .nilif))),(7,.v (.c (.int .i64 (↑s.length:Int)))),(8,.v (.c (.int .i64 (k:Int))))],[],32⟩) (fun k=>k≤s.length∧s.all plainB=(s.drop k).all plainB) (fun k=>s.length-k) 0 ⟨Nat.zero_le _,rfl⟩ ?_
 intro k L ⟨hk,hq⟩ again
 rcases Nat.lt_or_ge k s.length with hlt | hge
 ·rw [dropS s k hlt,List.all_cons] at hq
  refine zg [(4,{cs:=[(4,pc (plain_ok (s.getD k (0:UInt8))))]})] [true] [decide ((k:Int)<(s.length:Int))=true,(0:Int)≤(k:Int)∧(k:Int)<(s.length:Int)] ⟨sO,(show (0:Int)≤(↑k:Int)∧(↑k:Int)<(↑s.length:Int) from oM)⟩ ?_
  refine zc (!plainB (s.getD k (0:UInt8))) (fun h0 => ?_) (fun h0 => ?_)
  ·have g0:=h0
   simp at g0
   refine z0 [] [] ?_
   exact zS [.c (.bool false)] (by simp_all;done)
  ·have g0:=h0
   simp at g0
   refine zg [] [] [inR .i64 ((k:Int)+1)] (i6) ?_
   exact za [] (again _ (k+1) (⟨aS,(by simp_all<;>omega)⟩) oM)
 ·obtain rfl:k=s.length:=by omega
  rw [List.drop_length] at hq
  refine zg [] [false] [decide ((s.length:Int)<(s.length:Int))=false] ((show decide ((↑s.length:Int)<(↑s.length:Int))=false from (by simp;done))) ?_
  exact zS [.c (.bool true)] (by simp [*];done)
theorem lib_HasPrefix {G:Nat→Option (List Cell)} (s p:List UInt8):Pur Tryz.prog G 141 [.c (.str s),.c (.str p)] [.c (.bool (Lib.hasPrefix s p))]:=by
 refine Pur.of_below rfl ?_
 intro D ρ w vs h1 _ _ _
 obtain ⟨u,v,rfl,hu,hv⟩:=h1.two
 have hu:u = .string ⟨s.toArray⟩:=hu
 have hv:v = .string ⟨p.toArray⟩:=hv
 subst hu hv
 refine (Go.Proofs.Tryz.strings_HasPrefix ⟨s.toArray⟩ ⟨p.toArray⟩ w).mono ?_
 rintro e w' ⟨rfl,rfl⟩
 exact ⟨_,rfl,by simp [ResDen,DenV,Den],Below.refl _ _⟩
theorem Pur.grow {P:Program} {G G':Nat→Option (List Cell)} {f:FuncId} {args rs:List V1} (h:∀ g cs,G g=some cs→G' g=some cs) (hp:Pur P G f args rs):Pur P G' f args rs:=by
 unfold Pur Go.Sv.Fn at hp ⊢
 intro D ρ w vs h1 h2 h3
 exact hp D ρ w vs h1 (fun g cs hg=>h2 g cs (h g cs hg)) (fun g cs hg=>h3 g cs (h g cs hg))
def hiI (c:UInt8):Int:=(c.toNat:Int).fdiv (2^4)
def loI (c:UInt8):Int:=Int.ofNat ((BitVec.ofInt IntKind.u8.bits (c.toNat:Int) &&& BitVec.ofInt IntKind.u8.bits 15).toNat%(2^IntKind.u8.bits:Int).natAbs)

def isIn (l:List (List UInt8)) (s:List UInt8):Bool:=l.any (·==s)
def wdT (s:List UInt8):Bool:=s.all plainB&&(decide (1≤s.length)&&decide (s.length≤128))
theorem wd_b1 (s:List UInt8):(bif bif !s==[] then decide ((s.length:Int)≤128) else false then s.all plainB else false)=wdT s:=by
 unfold wdT
 cases s with
 | nil=>rfl
 | cons a r =>
  rw [show ((!(a::r)==[])=true) from rfl,show decide (((a::r).length:Int)≤128)=decide ((a::r).length≤128) from decide_eq_decide.2 oM,show decide (1≤(a::r).length)=true from decide_eq_true (by simp)]
  cases decide ((a::r).length≤128)<;>simp
theorem wd_b2 (s:List UInt8) (h:s.all plainB=true):(bif decide ((s.length:Int)≥1) then decide ((s.length:Int)≤128) else false)=wdT s:=by
 unfold wdT
 rw [h,Bool.true_and,Bool.cond_false_right]
 congr 1<;>(apply decide_eq_decide.2;omega)
theorem word_ok {G:Nat→Option (List Cell)} (s:List UInt8) (hl:s.length<4611686018427387904):Pur Tryz.prog G 121 [.c (.str s)] [.c (.bool (wdT s))]:=by
 refine zp Tryz.func121 ?_
 rw [← wd_b1]
 refine z0 [(1,{cs:=[(9,pc (All_plain s aS))]})] [] ?_
 exact zr
theorem word6_ok {G:Nat→Option (List Cell)} (s:List UInt8) (hl:s.length<4611686018427387904):Pur Tryz.prog G 59 [.c (.str s)] [.c (.bool (wdT s))]:=by
 refine zp Tryz.func59 ?_
 refine z0 [] [] ?_
 refine zl (fun (k:Nat)=>⟨[(0,.v (.c (.str s))),(3,.v (.c (.int .i64 (k:Int))))],[],32⟩) (fun k=>k≤s.length∧s.all plainB=(s.drop k).all plainB) (fun k=>s.length-k) 0 ⟨Nat.zero_le _,rfl⟩ ?_
 intro k L ⟨hk,hq⟩ again
 rcases Nat.lt_or_ge k s.length with hlt | hge
 ·rw [dropS s k hlt,List.all_cons] at hq
  cases hp:plainB (s.getD k 0) with
  | true =>
   rw [hp,Bool.true_and] at hq
   have c:=plain6_ok (G:=G) (s.getD k 0)
   rw [hp] at c
   refine zg [(4,{cs:=[(3,pc c)]})] [true,false] [decide ((k:Int)<(s.length:Int))=true,(0:Int)≤(k:Int)∧(k:Int)<(s.length:Int),(!true)=false,inR .i64 ((k:Int)+1)] ⟨sO,oM,rfl,i6⟩ ?_
   exact za [] (again _ (k+1) ⟨aS,aS⟩ oM)
  | false =>
   rw [hp,Bool.false_and] at hq
   have hw:wdT s=false:=by unfold wdT;rw [hq];rfl
   have c:=plain6_ok (G:=G) (s.getD k 0)
   rw [hp] at c
   rw [hw]
   refine zg [(4,{cs:=[(3,pc c)]})] [true,true] [decide ((k:Int)<(s.length:Int))=true,(0:Int)≤(k:Int)∧(k:Int)<(s.length:Int),(!false)=true] ⟨sO,oM,rfl⟩ ?_
   exact zr
 ·obtain rfl:k=s.length:=by omega
  rw [List.drop_length] at hq
  rw [← wd_b2 s hq]
  refine zg [] [false] [decide ((s.length:Int)<(s.length:Int))=false] (show decide ((↑s.length:Int)<(↑s.length:Int))=false from (by simp;done)) ?_
  exact zr

theorem size_lt (s:List UInt8):(⟨s.toArray⟩:ByteArray).size=s.length:=size_mk s
theorem glob_one {D:Dat} {w:World} {g:Nat} {x:Cell} (hG:G g=some [x]) (k1:GlobOk G D) (k3:Agree D w):∃ u,w.cell? ⟨g,0,none⟩=some u∧Den D rho0 x u:=by
 obtain ⟨u,hu,hd⟩:=k1 g _ hG 0 x rfl
 exact ⟨u,k3 _ _ _ hu,hd⟩
theorem lib_Split {m:Int} (hG:G 0=some [.int .i64 m]) (s p:List UInt8) (hl:s.length<4294967281) (hp:1≤p.length):Pur Tryz.prog G 120 [.c (.str s),.c (.str p)] [.c (.sl 1 (Lib.split s p).length (strsF (Lib.split s p)))]:=by
 have hsz:(Lib.splitB ⟨p.toArray⟩ 0 (Lib.countB ⟨s.toArray⟩ ⟨p.toArray⟩) ⟨s.toArray⟩).length=Lib.countB ⟨s.toArray⟩ ⟨p.toArray⟩+1:=Lib.splitB_all _ (by rw [size_lt];exact hp) 0 _ _ rfl
 have hdat:(Lib.splitB ⟨p.toArray⟩ 0 (Lib.countB ⟨s.toArray⟩ ⟨p.toArray⟩) ⟨s.toArray⟩).map (·.data.toList)=Lib.split s p:=by rw [Lib.splitB_data];rfl
 have hlen:(Lib.split s p).length=Lib.countB ⟨s.toArray⟩ ⟨p.toArray⟩+1:=by rw [← hdat,List.length_map,hsz]
 have hcl:=Lib.countB_le ⟨p.toArray⟩ (by rw [size_lt];exact hp) s.length ⟨s.toArray⟩ (by rw [size_lt];exact Nat.le_refl _)
 rw [size_lt] at hcl
 refine Pur.of_alloc (by rw [hlen];unfold maxLen;omega) ?_
 intro D ρ w vs h1 k1 _ k3
 obtain ⟨u,v,rfl,hu,hv⟩:=h1.two
 have hu:u = .string ⟨s.toArray⟩:=hu
 have hv:v = .string ⟨p.toArray⟩:=hv
 subst hu hv
 obtain ⟨x,hx,hd⟩:=glob_one hG k1 k3
 have hd:x = .int .i64 m:=hd
 subst hd
 refine (Go.Proofs.Tryz.strings_Split ⟨s.toArray⟩ ⟨p.toArray⟩ m w (by rw [size_lt];exact hl) hx (by rw [size_lt];exact hp)).mono ?_
 rintro e w' ⟨rfl,rfl⟩
 refine ⟨_,_,by rw [hlen],rfl,by simp [hsz,hlen],fun i hi => ?_⟩
 have hi':i<(Lib.splitB ⟨p.toArray⟩ 0 (Lib.countB ⟨s.toArray⟩ ⟨p.toArray⟩) ⟨s.toArray⟩).length:=by rw [hsz,← hlen];exact hi
 refine ⟨.string (Lib.splitB ⟨p.toArray⟩ 0 (Lib.countB ⟨s.toArray⟩ ⟨p.toArray⟩) ⟨s.toArray⟩)[i],by simp [hi'],fun D => ?_⟩
 have:(Lib.split s p).getD i []=(Lib.splitB ⟨p.toArray⟩ 0 (Lib.countB ⟨s.toArray⟩ ⟨p.toArray⟩) ⟨s.toArray⟩)[i].data.toList:=by
  rw [← hdat];simp [List.getD,hi']
 show _=Value.string ⟨((Lib.split s p).getD i []).toArray⟩
 rw [this]

theorem split_hit {s sep:List UInt8} {i:Nat} (hs:sep≠[]) (h:Lib.index s sep=i):Lib.split s sep=s.take i::Lib.split (s.drop (i+sep.length)) sep:=by
 have hne:((i:Int) == -1)=false:=by rw [beq_eq_false_iff_ne];omega
 unfold Lib.split
 rw [Lib.count_hit hs h,Nat.add_comm 1,Lib.splitK,h,hne]
 simp
theorem split_miss {s sep:List UInt8} (h:Lib.index s sep = -1):Lib.split s sep=[s]:=by
 unfold Lib.split;rw [Lib.count_miss h];rfl
theorem occ_drop (s sep:List UInt8) (a j:Nat):Lib.occAt (s.drop a) sep j=Lib.occAt s sep (a+j):=by
 unfold Lib.occAt;rw [List.drop_drop]
theorem split_at {s sep:List UInt8} (hs:sep≠[]) {a i:Nat} (hai:a≤i) (hi:i≤s.length) (ho:Lib.occAt s sep i=true) (hall:∀ j,a≤j→j<i→Lib.occAt s sep j=false) :
  Lib.split (s.drop a) sep=(s.take i).drop a::Lib.split (s.drop (i+sep.length)) sep:=by
 have h:Lib.index (s.drop a) sep=((i-a:Nat):Int):=Lib.index_first (by rw [List.length_drop];omega) (by rw [occ_drop,show a+(i-a)=i from by omega];exact ho) (fun j hj=>by rw [occ_drop];exact hall _ oM oM)
 rw [split_hit hs h,List.drop_drop,show a+(i-a+sep.length)=i+sep.length from by omega,List.drop_take]
theorem split_end {s sep:List UInt8} (hs:sep≠[]) {a i:Nat} (hi:s.length<i+sep.length) (hall:∀ j,a≤j→j<i→Lib.occAt s sep j=false):Lib.split (s.drop a) sep=[(s.take s.length).drop a]:=by
 rw [List.take_length]
 refine split_miss (Lib.index_none fun j hj => ?_)
 cases hq:Lib.occAt (s.drop a) sep j with
 | false=>rfl
 | true =>
  rcases Lib.occAt_room hq with h' | h'
  ·rw [List.length_drop] at h'
   have hp:0<sep.length:=List.length_pos_iff.2 hs
   have:=hall (a+j) oM oM
   rw [occ_drop,this] at hq;cases hq
  ·exact (hs h').elim
theorem parts_ok (s sep:List UInt8) (hl:s.length<1000000000) (hs:sep≠[]) (hn:sep.length<1000):Pur Tryz.prog G 102 [.c (.str s),.c (.str sep)] [.c (.sl 1 (Lib.split s sep).length (strsF (Lib.split s sep)))]:=by
 refine zp Tryz.func102 ?_
 have hp:0<sep.length:=List.length_pos_iff.2 hs
 refine z0 [] [] ?_
 refine Wp.loopK kR (fun (x:Nat×Nat×Nat×List (List UInt8))=>⟨[(0,.v (.c (.str s))),(1,.v (.c (.str sep))),(5,.v (.c (.row 1 64 0 x.2.2.1))),(6,.v (.c (.int .i64 (x.2.1:Int)))),(7,.v (.c (.int .i64 (x.1:Int))))],[(64,.row 9 1 x.2.2.1 (strsF x.2.2.2))],80⟩) (fun x=>x.1≤s.length∧x.2.1≤s.length∧x.2.2.1=x.2.2.2.length∧x.2.2.1≤x.1∧Lib.split s sep=x.2.2.2++Lib.split (s.drop x.2.1) sep∧∀ j,x.2.1≤j→j<x.1→Lib.occAt s sep j=false) (fun x=>s.length-x.1) (0,0,0,[]) (Ent.trans (Ent.empT (t:=5) (sz:=1) (e:=9) (f:=(strsF [])) dC kR rfl) (Ent.of [] kR kR kR trivial)) ⟨Nat.zero_le _,Nat.zero_le _,rfl,Nat.le_refl _,rfl,fun j _ h=>absurd h (Nat.not_lt_zero _)⟩ ?_
 rintro ⟨i,a,n,acc⟩ L ⟨hi,ha,hna,hni,hq,hall⟩ again
 simp only at hi ha hna hni hq hall
 by_cases hlt:i+sep.length≤s.length
 ·have ho:=occ_at s sep i hlt
  by_cases hai:a≤i
  ·cases hoc:Lib.occAt s sep i with
   | true =>
    rw [hoc] at ho
    have ht:(bif decide ((i:Int)≥(a:Int)) then List.drop i (List.take (i+sep.length) s)==sep else false)=true:=by rw [decide_eq_true oM];exact ho.symm
    rw [split_at hs hai hi hoc hall] at hq
    have hq2:Lib.split s sep=(acc++[(s.take i).drop a])++Lib.split (s.drop (i+sep.length)) sep:=by rw [hq];simp
    have hall2:∀ j,i+sep.length≤j→j<i+1→Lib.occAt s sep j=false:=fun j h1 h2=>by omega
    have e1:BlkEqv (.row 9 1 (n+1) (catF n (strsF acc) (fun i' j=>nthD [.str ((s.take i).drop a)] ((0+i')*1+j)))) (.row 9 1 (n+1) (strsF (acc++[(s.take i).drop a]))):=strs_app acc _ hna
    have q2:n+1=(acc++[(s.take i).drop a]).length:=by simp [hna]
    clear hq hall hoc ho
    refine zg [(7,{bs:=[(6,.row 9 1 (n+1) (strsF (acc++[(s.take i).drop a])))]})] [true,true] [inR .i64 ((i:Int)+(sep.length:Int)),decide ((i:Int)+(sep.length:Int)≤(s.length:Int))=true,decide ((i:Int)≥(a:Int))=true→inR .i64 ((i:Int)+(sep.length:Int)),decide ((i:Int)≥(a:Int))=true→(0:Int)≤Int.ofNat i∧Int.ofNat i≤Int.ofNat (i+sep.length)∧Int.ofNat (i+sep.length)≤(s.length:Int),(bif decide ((i:Int)≥(a:Int)) then List.drop (Int.ofNat i).toNat (List.take (Int.ofNat (i+sep.length)).toNat s)==sep else false)=true,(0:Int)≤Int.ofNat a∧Int.ofNat a≤Int.ofNat i∧Int.ofNat i≤(s.length:Int),(n+1)*16≤140737488355328,BlkEqv (.row 9 (1:Nat) (n+(1:Nat)) (catF n (strsF acc) fun (i_1 j:Nat)=>nthD [.str (List.drop (Int.ofNat a).toNat (List.take (Int.ofNat i).toNat s))] (((0:Nat)+i_1)*(1:Nat)+j))) (.row 9 (1:Nat) (n+(1:Nat)) (strsF (acc++[List.drop a (List.take i s)]))),n≤n,0+1≤1,inR .i64 ((i:Int)+(sep.length:Int)),inR .i64 ((i:Int)+1)] ⟨i6,sO,(fun _=>i6),sO,aS,⟨(by simp;done),⟨sO,sO⟩⟩,oM,aS,oM,oM,i6,i6⟩ ?_
    exact za [(64,512)] (again _ (i+1,i+sep.length,n+1,acc++[(s.take i).drop a]) ⟨oM,⟨aS,⟨aS,⟨sO,⟨aS,aS⟩⟩⟩⟩⟩ oM)
   | false =>
    rw [hoc] at ho
    have ht:(bif decide ((i:Int)≥(a:Int)) then List.drop i (List.take (i+sep.length) s)==sep else false)=false:=by rw [decide_eq_true oM];exact ho.symm
    have hall2:∀ j,a≤j→j<i+1→Lib.occAt s sep j=false:=fun j h1 h2=>by
     rcases Nat.lt_or_ge j i with h | h
     ·exact hall j h1 h
     ·rw [show j=i from by omega];exact hoc
    clear hall hoc ho
    refine zg [] [true,false] [inR .i64 ((i:Int)+(sep.length:Int)),decide ((i:Int)+(sep.length:Int)≤(s.length:Int))=true,decide ((i:Int)≥(a:Int))=true→inR .i64 ((i:Int)+(sep.length:Int)),decide ((i:Int)≥(a:Int))=true→(0:Int)≤Int.ofNat i∧Int.ofNat i≤Int.ofNat (i+sep.length)∧Int.ofNat (i+sep.length)≤(s.length:Int),(bif decide ((i:Int)≥(a:Int)) then List.drop (Int.ofNat i).toNat (List.take (Int.ofNat (i+sep.length)).toNat s)==sep else false)=false,inR .i64 ((i:Int)+1)] ⟨i6,sO,(fun _=>i6),sO,aS,i6⟩ ?_
    exact za [] (again _ (i+1,a,n,acc) ⟨oM,⟨aS,⟨aS,⟨sO,⟨aS,aS⟩⟩⟩⟩⟩ oM)
  ·have hall2:∀ j,a≤j→j<i+1→Lib.occAt s sep j=false:=fun j h1 h2=>by omega
   clear hall ho
   refine zg [] [true,false] [inR .i64 ((i:Int)+(sep.length:Int)),decide ((i:Int)+(sep.length:Int)≤(s.length:Int))=true,decide ((i:Int)≥(a:Int))=true→inR .i64 ((i:Int)+(sep.length:Int)),decide ((i:Int)≥(a:Int))=true→(0:Int)≤Int.ofNat i∧Int.ofNat i≤Int.ofNat (i+sep.length)∧Int.ofNat (i+sep.length)≤(s.length:Int),(bif decide ((i:Int)≥(a:Int)) then List.drop (Int.ofNat i).toNat (List.take (Int.ofNat (i+sep.length)).toNat s)==sep else false)=false,inR .i64 ((i:Int)+1)] ⟨i6,sO,(fun _=>i6),sO,sO,i6⟩ ?_
   exact za [] (again _ (i+1,a,n,acc) ⟨oM,⟨aS,⟨aS,⟨sO,⟨aS,aS⟩⟩⟩⟩⟩ oM)
 ·rw [split_end hs oM hall] at hq
  rw [hq]
  have e1:BlkEqv (.row 9 1 (n+1) (catF n (strsF acc) (fun i' j=>nthD [.str ((s.take s.length).drop a)] ((0+i')*1+j)))) (.row 9 1 (n+1) (strsF (acc++[(s.take s.length).drop a]))):=strs_app acc _ hna
  have q2:n+1=(acc++[(s.take s.length).drop a]).length:=by simp [hna]
  clear hq hall
  refine zg [(9,{bs:=[(5,.row 9 1 (n+1) (strsF (acc++[(s.take s.length).drop a])))]})] [false] [inR .i64 ((i:Int)+(sep.length:Int)),decide ((i:Int)+(sep.length:Int)≤(s.length:Int))=false,(0:Int)≤Int.ofNat a∧Int.ofNat a≤Int.ofNat s.length∧Int.ofNat s.length≤(s.length:Int),(n+1)*16≤140737488355328,BlkEqv (.row 9 (1:Nat) (n+(1:Nat)) (catF n (strsF acc) fun i j=>nthD [.str (List.drop (Int.ofNat a).toNat (List.take (Int.ofNat s.length).toNat s))] (((0:Nat)+i)*(1:Nat)+j))) (.row 9 (1:Nat) (n+(1:Nat)) (strsF (acc++[List.drop a (List.take s.length s)]))),n≤n,0+1≤1] ⟨i6,sO,⟨(by simp;done),⟨sO,(by simp;done)⟩⟩,oM,aS,oM,(show (0:Nat)+(1:Nat)≤(1:Nat) from oM)⟩ ?_
  refine Wp.ent' kR (Ent.pubT (t:=4) (e:=9) (sz:=(1:Nat)) (id:=272) (off:=(0:Nat)) (m:=n+(1:Nat)) (n:=n+(1:Nat)) (f:=strsF (acc++[List.drop a (List.take s.length s)])) (m':=(acc++[List.drop a (List.take s.length s)]).length) (f':=strsF (acc++[List.drop a (List.take s.length s)])) kR kR oM aS (fun i _ j _=>by rw [Nat.zero_add]) rfl) ?_
  exact zr
theorem splitK_len (sep:List UInt8):∀ (k:Nat) (s:List UInt8),∀ x∈Lib.splitK sep 0 k s,x.length≤s.length
 | 0,s,x,hx=>by simp [Lib.splitK] at hx; subst hx; exact Nat.le_refl _
 | k+1,s,x,hx=>by
  unfold Lib.splitK at hx
  split at hx
  ·simp at hx;subst hx;exact Nat.le_refl _
  ·rcases List.mem_cons.1 hx with rfl | hx
   ·simp only [List.length_take];omega
   ·have:=splitK_len sep k _ x hx
    rw [List.length_drop] at this
    omega
theorem split_el (s sep:List UInt8) (k:Nat):((Lib.split s sep).getD k []).length≤s.length:=by
 rw [List.getD_eq_getElem?_getD]
 cases h:(Lib.split s sep)[k]? with
 | none=>simp
 | some x=>exact splitK_len sep _ s x (List.mem_of_getElem? h)
theorem idxS_ok (l:List (List UInt8)) (n:Nat) (s:List UInt8) (hn:n=l.length) (hl:n<4611686018427387904):Pur Tryz.prog G 131 [.c (.sl 1 n (strsF l)),.c (.str s)] [.c (.int .i64 (ixF (·==s) l))]:=by
 subst hn
 refine zp Tryz.func131 ?_
 refine z0 [] [] ?_
 refine zl (fun (k:Nat)=>⟨[(0,.v (.c (.sl 1 l.length (strsF l)))),(1,.v (.c (.str s))),(7,.v (.c (.int .i64 (l.length:Int)))),(8,.v (.c (.int .i64 (k:Int))))],[],64⟩) (fun k=>k≤l.length∧∀ i,i<k→(l.getD i []==s)=false) (fun k=>l.length-k) 0 ⟨Nat.zero_le _,fun _ h=>absurd h (Nat.not_lt_zero _)⟩ ?_
 intro k L ⟨hk,hall⟩ again
 rcases Nat.lt_or_ge k l.length with hlt | hge
 ·cases hq:(s==l.getD k []) with
  | true =>
   have hq':(l.getD k []==s)=true:=by rw [Bool.beq_comm];exact hq
   rw [ixF_some (d:=[]) hlt hall hq']
   refine zg [] [true,true] [decide ((k:Int)<(l.length:Int))=true,(0:Int)≤(k:Int)∧(k:Int)<(l.length:Int),(s==l.getD k [])=true] ⟨sO,oM,(show (s==l.getD k [])=true from aS)⟩ ?_
   exact zr
  | false =>
   have hq':(l.getD k []==s)=false:=by rw [Bool.beq_comm];exact hq
   have hall':=up1 hall hq'
   refine zg [] [true,false] [decide ((k:Int)<(l.length:Int))=true,(0:Int)≤(k:Int)∧(k:Int)<(l.length:Int),(s==l.getD k [])=false,inR .i64 ((k:Int)+1)] ⟨sO,oM,aS,i6⟩ ?_
   exact za [] (again _ (k+1) ⟨aS,aS⟩ oM)
 ·rw [ixF_none (d:=[]) (fun i hi=>hall i oM)]
  refine zg [] [false] [decide ((k:Int)<(l.length:Int))=false] (oN sO) ?_
  exact zr
theorem conS_ok (l:List (List UInt8)) (n:Nat) (s:List UInt8) (hn:n=l.length) (hl:n<4611686018427387904):Pur Tryz.prog G 122 [.c (.sl 1 n (strsF l)),.c (.str s)] [.c (.bool (isIn l s))]:=by
 refine zp Tryz.func122 ?_
 have hx:=ixF_any (·==s) l
 have c:=idxS_ok (G:=G) l n s hn hl
 refine z0 [(1,{cs:=[(2,pc c)]})] [] ?_
 exact zS [.c (.bool (decide (ixF (fun (x:List UInt8)=>x==s) l≥(0:Int))))] (by simp [isIn, *];done)
theorem strs_mem {l:List (List UInt8)} {i:Nat} (h:i<l.length):l.getD i []∈l:=by simp [List.getD,h]
theorem in16_ok (l:List (List UInt8)) (n:Nat) (s:List UInt8) (hn:n=l.length) (hl:n<4611686018427387904):Pur Tryz.prog G 103 [.c (.sl 1 n (strsF l)),.c (.str s)] [.c (.bool (isIn l s))]:=by
 subst hn
 refine zp Tryz.func103 ?_
 refine z0 [] [] ?_
 refine zl (fun (k:Nat)=>⟨[(0,.v (.c (.sl 1 l.length (strsF l)))),(1,.v (.c (.str s))),(5,.v (.c (.int .i64 (k:Int))))],[],32⟩) (fun k=>k≤l.length∧∀ i,i<k→(l.getD i []==s)=false) (fun k=>l.length-k) 0 ⟨Nat.zero_le _,fun _ h=>absurd h (Nat.not_lt_zero _)⟩ ?_
 intro k L ⟨hk,hall⟩ again
 rcases Nat.lt_or_ge k l.length with hlt | hge
 ·cases hq:(l.getD k []==s) with
  | true =>
   have hx:isIn l s=true:=List.any_eq_true.2 ⟨l.getD k [],strs_mem hlt,hq⟩
   rw [hx]
   refine zg [] [true,true] [decide ((k:Int)<(l.length:Int))=true,(0:Int)≤(k:Int)∧(k:Int)<(l.length:Int),(l.getD k []==s)=true] ⟨sO,oM,(show (l.getD k []==s)=true from aS)⟩ ?_
   exact zr
  | false =>
   have hall':=up1 hall hq
   refine zg [] [true,false] [decide ((k:Int)<(l.length:Int))=true,(0:Int)≤(k:Int)∧(k:Int)<(l.length:Int),(l.getD k []==s)=false,inR .i64 ((k:Int)+1)] ⟨sO,oM,aS,i6⟩ ?_
   exact za [] (again _ (k+1) ⟨aS,aS⟩ oM)
 ·have hx:isIn l s=false:=List.any_eq_false.2 fun x hx=>by
   obtain ⟨i,hi,rfl⟩:=List.getElem_of_mem hx
   have:=hall i oM
   simp only [List.getD,List.getElem?_eq_getElem hi,Option.getD_some] at this
   simp [this]
  rw [hx]
  refine zg [] [false] [decide ((k:Int)<(l.length:Int))=false] (oN sO) ?_
  exact zr
def scE:List (List UInt8)→List (List UInt8)→Int
 | _,[]=>0
 | seen,w::r=>if wdT w=true then (if isIn seen w=true then 6 else scE (seen++[w]) r) else 3
def scErr (l:List (List UInt8)):Int:=if 8<l.length then 7 else scE [] l
def scL (s:List UInt8):List (List UInt8):=Lib.split s [32]
def scV (s:List UInt8):List V1:=if scErr (scL s)=0 then [.c (.sl 1 (scL s).length (strsF (scL s))),.c (.int .i64 0)] else [.c .nilsl,.c (.int .i64 (scErr (scL s)))]
theorem scE_drop (l:List (List UInt8)) (k:Nat) (h:k<l.length):scE (l.take k) (l.drop k)=if wdT (l.getD k [])=true then (if isIn (l.take k) (l.getD k [])=true then 6 else scE (l.take (k+1)) (l.drop (k+1))) else 3:=by
 have h1:l.drop k=l.getD k []::l.drop (k+1):=by rw [List.drop_eq_getElem_cons h];simp [List.getD,h]
 have h2:l.take (k+1)=l.take k++[l.getD k []]:=by rw [List.take_succ];simp [List.getD,h]
 rw [h1,scE,h2]
theorem strs_cut (l:List (List UInt8)) (k:Nat) (h:k≤l.length):EqvD (.c (.sl 1 k (fun i j=>strsF l (0+i) j))) (.c (.sl 1 k (strsF (l.take k)))):=EqvD.sl rfl (fun i hi j hj=>by
 simp only [strsF,Nat.zero_add,List.getD_eq_getElem?_getD,List.getElem?_take,if_pos hi])
theorem Clip_ok (l:List (List UInt8)) (n:Nat) (hl:l.length<1000000000000) (hn:n=l.length):Pur Tryz.prog G 123 [.c (.sl 1 n (strsF l))] [.c (.sl 1 n (strsF l))]:=by
 refine zp Tryz.func123 ?_
 have e1:EqvD (.c (.sl 1 n (fun i j=>strsF l (0+i) j))) (.c (.sl 1 n (strsF l))):=EqvD.sl rfl (fun i hi j hj=>by rw [Nat.zero_add])
 refine zg [(1,{fm:=[(5,.c (.sl 1 n (strsF l)))]})] [] [EqvI (.c (.sl 1 ((Int.ofNat n).toNat-(0:Nat)) fun i j=>strsF l ((0:Nat)+i) j)) (.c (.sl 1 n (strsF l))),EqvD (.c (.sl 1 ((Int.ofNat n).toNat-(0:Nat)) fun i j=>strsF l ((0:Nat)+i) j)) (.c (.sl 1 n (strsF l))),(0:Int)≤Int.ofNat (0)∧Int.ofNat (0)≤Int.ofNat n∧Int.ofNat n≤Int.ofNat n∧Int.ofNat n≤(n:Int)] ⟨fun _ _=>trivial,aS,⟨dC,⟨(by simp;done),⟨oM,(by simp;done)⟩⟩⟩⟩ ?_
 exact zr
theorem scP_many (s:List UInt8) (h:8<(scL s).length):scV s=[.c .nilsl,.c (.int .i64 7)]:=by
 unfold scV scErr;rw [if_pos h,if_neg dC]
theorem scP_good (s:List UInt8) (h8:(scL s).length≤8) (h:scE [] (scL s)=0):scV s=[.c (.sl 1 (scL s).length (strsF (scL s))),.c (.int .i64 0)]:=by
 have h2:scErr (scL s)=0:=by unfold scErr;rw [if_neg oM];exact h
 unfold scV;rw [if_pos h2]
theorem scP_bad (s:List UInt8) (h8:(scL s).length≤8) {e:Int} (he:e≠0) (h:scE [] (scL s)=e):scV s=[.c .nilsl,.c (.int .i64 e)]:=by
 have h2:scErr (scL s)=e:=by unfold scErr;rw [if_neg oM];exact h
 unfold scV;rw [h2,if_neg he]
theorem scParse_ok {m:Int} (hG:G 0=some [.int .i64 m]) (s:List UInt8) (hs:s.length<1000000000):Pur Tryz.prog G 106 [.c (.str s)] (scV s):=by
 have c1:Pur Tryz.prog G 120 [.c (.str s),.c (.str [32])] [.c (.sl 1 (scL s).length (strsF (scL s)))]:=lib_Split (G:=G) hG s [32] oM dC
 have hel:∀ k,((scL s).getD k []).length<4611686018427387904:=fun k=>by have:=split_el s [32] k;show ((Lib.split s [32]).getD k []).length<_;omega
 refine zp Tryz.func106 ?_
 rcases Nat.lt_or_ge 8 (scL s).length with h8 | h8
 ·rw [scP_many s h8]
  generalize scL s=l at c1 h8
  refine zg [(1,{cs:=[(1,pc c1)]})] [true] [decide ((l.length:Int)>8)=true] (oN sO) ?_
  exact zr
 ·have hv1:=scP_good s h8
  have hv2:=fun e=>scP_bad s h8 (e:=e)
  generalize scV s=V at hv1 hv2 ⊢
  generalize scL s=l at c1 h8 hv1 hv2 hel
  refine zg [(1,{cs:=[(1,pc c1)]})] [false] [decide ((l.length:Int)>8)=false] (oN sO) ?_
  refine zl (fun (k:Nat)=>⟨[(4,.v (.c (.sl 1 l.length (strsF l)))),(12,.v (.c (.sl 1 l.length (strsF l)))),(13,.v (.c (.int .i64 (l.length:Int)))),(14,.v (.c (.int .i64 (k:Int))))],[],176⟩) (fun k=>k≤l.length∧scE [] l=scE (l.take k) (l.drop k)) (fun k=>l.length-k) 0 ⟨Nat.zero_le _,rfl⟩ ?_
  intro k L ⟨hk,hall⟩ again
  rcases Nat.lt_or_ge k l.length with hlt | hge
  ·rw [scE_drop l k hlt] at hall
   have c2:=word_ok (G:=G) (l.getD k []) (hel k)
   cases hw:wdT (l.getD k []) with
   | false =>
    rw [hw] at c2
    rw [hw,if_neg (by simp)] at hall
    rw [hv2 3 dC hall]
    clear hw hv1 hv2
    refine zg [(7,{cs:=[(1,pc c2)]})] [true,true] [decide ((k:Int)<(l.length:Int))=true,(0:Int)≤(k:Int)∧(k:Int)<(l.length:Int),(!false)=true] ⟨sO,oM,rfl⟩ ?_
    exact zr
   | true =>
    rw [hw] at c2
    rw [hw,if_pos rfl] at hall
    have e1:=strs_cut l k hk
    have c3:=conS_ok (G:=G) (l.take k) k (l.getD k []) sO oM
    cases hi:isIn (l.take k) (l.getD k []) with
    | true =>
     rw [hi] at c3
     rw [hi,if_pos rfl] at hall
     rw [hv2 6 dC hall]
     clear hw hv1 hv2 hi
     refine zg [(9,{cs:=[(4,pc c3)],fm:=[(2,.c (.sl 1 k (strsF (l.take k))))]}),(7,{cs:=[(1,pc c2)]})] [true,false,true] [decide ((k:Int)<(l.length:Int))=true,(0:Int)≤(k:Int)∧(k:Int)<(l.length:Int),(!true)=false,EqvI (.c (.sl 1 ((Int.ofNat k).toNat-(0:Nat)) fun i j=>strsF l ((0:Nat)+i) j)) (.c (.sl 1 k (strsF (List.take k l)))),EqvD (.c (.sl 1 ((Int.ofNat k).toNat-(0:Nat)) fun i j=>strsF l ((0:Nat)+i) j)) (.c (.sl 1 k (strsF (List.take k l)))),(0:Int)≤Int.ofNat (0)∧Int.ofNat (0)≤Int.ofNat k∧Int.ofNat k≤(l.length:Int),true=true] ⟨sO,oM,rfl,fun _ _=>trivial,aS,⟨dC,⟨(by simp;done),sO⟩⟩,rfl⟩ ?_
     exact zr
    | false =>
     rw [hi] at c3
     rw [hi,if_neg (by simp)] at hall
     clear hw hv1 hv2 hi
     refine zg [(9,{cs:=[(4,pc c3)],fm:=[(2,.c (.sl 1 k (strsF (l.take k))))]}),(7,{cs:=[(1,pc c2)]})] [true,false,false] [decide ((k:Int)<(l.length:Int))=true,(0:Int)≤(k:Int)∧(k:Int)<(l.length:Int),(!true)=false,EqvI (.c (.sl 1 ((Int.ofNat k).toNat-(0:Nat)) fun i j=>strsF l ((0:Nat)+i) j)) (.c (.sl 1 k (strsF (List.take k l)))),EqvD (.c (.sl 1 ((Int.ofNat k).toNat-(0:Nat)) fun i j=>strsF l ((0:Nat)+i) j)) (.c (.sl 1 k (strsF (List.take k l)))),(0:Int)≤Int.ofNat (0)∧Int.ofNat (0)≤Int.ofNat k∧Int.ofNat k≤(l.length:Int),false=false,inR .i64 ((k:Int)+1)] ⟨sO,oM,rfl,fun _ _=>trivial,aS,⟨dC,⟨(by simp;done),sO⟩⟩,rfl,i6⟩ ?_
     exact za [] (again _ (k+1) oM oM)
  ·rw [List.drop_of_length_le hge,scE] at hall
   rw [hv1 hall]
   have c2:=Clip_ok (G:=G) l l.length oM rfl
   clear hv1 hv2
   refine zg [(12,{cs:=[(1,pc c2)]})] [false] [decide ((k:Int)<(l.length:Int))=false] (oN sO) ?_
   exact zr
theorem scParse16_ok (s:List UInt8) (hs:s.length<1000000000):Pur Tryz.prog G 79 [.c (.str s)] (scV s):=by
 have c1:Pur Tryz.prog G 102 [.c (.str s),.c (.str [32])] [.c (.sl 1 (scL s).length (strsF (scL s)))]:=parts_ok (G:=G) s [32] hs dC dC
 have hel:∀ k,((scL s).getD k []).length<4611686018427387904:=fun k=>by have:=split_el s [32] k;show ((Lib.split s [32]).getD k []).length<_;omega
 refine zp Tryz.func79 ?_
 rcases Nat.lt_or_ge 8 (scL s).length with h8 | h8
 ·rw [scP_many s h8]
  generalize scL s=l at c1 h8
  refine zg [(1,{cs:=[(1,pc c1)]})] [true] [decide ((l.length:Int)>8)=true] (oN sO) ?_
  exact zr
 ·have hv1:=scP_good s h8
  have hv2:=fun e=>scP_bad s h8 (e:=e)
  generalize scV s=V at hv1 hv2 ⊢
  generalize scL s=l at c1 h8 hv1 hv2 hel
  refine zg [(1,{cs:=[(1,pc c1)]})] [false] [decide ((l.length:Int)>8)=false] (oN sO) ?_
  refine zl (fun (k:Nat)=>⟨[(4,.v (.c (.sl 1 l.length (strsF l)))),(5,.v (.c (.int .i64 (k:Int))))],[],144⟩) (fun k=>k≤l.length∧scE [] l=scE (l.take k) (l.drop k)) (fun k=>l.length-k) 0 ⟨Nat.zero_le _,rfl⟩ ?_
  intro k L ⟨hk,hall⟩ again
  rcases Nat.lt_or_ge k l.length with hlt | hge
  ·rw [scE_drop l k hlt] at hall
   have c2:=word6_ok (G:=G) (l.getD k []) (hel k)
   cases hw:wdT (l.getD k []) with
   | false =>
    rw [hw] at c2
    rw [hw,if_neg (by simp)] at hall
    rw [hv2 3 dC hall]
    clear hw hv1 hv2
    refine zg [(7,{cs:=[(4,pc c2)]})] [true,true] [decide ((k:Int)<(l.length:Int))=true,(0:Int)≤(k:Int)∧(k:Int)<(l.length:Int),(!false)=true] ⟨sO,oM,rfl⟩ ?_
    exact zr
   | true =>
    rw [hw] at c2
    rw [hw,if_pos rfl] at hall
    have e1:=strs_cut l k hk
    have c3:=in16_ok (G:=G) (l.take k) k (l.getD k []) sO oM
    cases hi:isIn (l.take k) (l.getD k []) with
    | true =>
     rw [hi] at c3
     rw [hi,if_pos rfl] at hall
     rw [hv2 6 dC hall]
     clear hw hv1 hv2 hi
     refine zg [(9,{cs:=[(7,pc c3)],fm:=[(2,.c (.sl 1 k (strsF (l.take k))))]}),(7,{cs:=[(4,pc c2)]})] [true,false,true] [decide ((k:Int)<(l.length:Int))=true,(0:Int)≤(k:Int)∧(k:Int)<(l.length:Int),(!true)=false,EqvI (.c (.sl 1 ((Int.ofNat k).toNat-(0:Nat)) fun i j=>strsF l ((0:Nat)+i) j)) (.c (.sl 1 k (strsF (List.take k l)))),EqvD (.c (.sl 1 ((Int.ofNat k).toNat-(0:Nat)) fun i j=>strsF l ((0:Nat)+i) j)) (.c (.sl 1 k (strsF (List.take k l)))),(0:Int)≤Int.ofNat (0)∧Int.ofNat (0)≤Int.ofNat k∧Int.ofNat k≤(l.length:Int),(0:Int)≤(k:Int)∧(k:Int)<(l.length:Int),true=true] ⟨sO,oM,rfl,fun _ _=>trivial,aS,⟨dC,⟨(by simp;done),sO⟩⟩,oM,rfl⟩ ?_
     exact zr
    | false =>
     rw [hi] at c3
     rw [hi,if_neg (by simp)] at hall
     clear hw hv1 hv2 hi
     refine zg [(9,{cs:=[(7,pc c3)],fm:=[(2,.c (.sl 1 k (strsF (l.take k))))]}),(7,{cs:=[(4,pc c2)]})] [true,false,false] [decide ((k:Int)<(l.length:Int))=true,(0:Int)≤(k:Int)∧(k:Int)<(l.length:Int),(!true)=false,EqvI (.c (.sl 1 ((Int.ofNat k).toNat-(0:Nat)) fun i j=>strsF l ((0:Nat)+i) j)) (.c (.sl 1 k (strsF (List.take k l)))),EqvD (.c (.sl 1 ((Int.ofNat k).toNat-(0:Nat)) fun i j=>strsF l ((0:Nat)+i) j)) (.c (.sl 1 k (strsF (List.take k l)))),(0:Int)≤Int.ofNat (0)∧Int.ofNat (0)≤Int.ofNat k∧Int.ofNat k≤(l.length:Int),(0:Int)≤(k:Int)∧(k:Int)<(l.length:Int),false=false,inR .i64 ((k:Int)+1)] ⟨sO,oM,rfl,fun _ _=>trivial,aS,⟨dC,⟨(by simp;done),sO⟩⟩,oM,rfl,i6⟩ ?_
     exact za [] (again _ (k+1) oM oM)
  ·rw [List.drop_of_length_le hge,scE] at hall
   rw [hv1 hall]
   clear hv1 hv2
   refine zg [] [false] [decide ((k:Int)<(l.length:Int))=false] (oN sO) ?_
   exact zr
end Go.Proofs.Tw
end
section
namespace Go.Sv
open M
structure NxI where
 ops:Array Oper
 r:List Oper
 d:Nat
 iid:Nat
 n:Nat
 seen:List Nat
 m:List (List UInt8×V1)
 k:List KI
 mid:Nat
 mv:Bool
def nxInfo (N:Nat) (k:List KI) (st:St):Option NxI:=match k with
 | .code (.region _ ops false)::k=>match ops.toList,opsOk N ops.toList with
  | o::r,true=>match o.guard,o.dst,o.op with
   | none,some d,.next (.tmp t) false=>match look st.tm t with
    | some (.v (.c (.ptr iid 0)))=>match look st.hp iid with
     | some (.ob (.mi mid n seen))=>match look st.hp mid with
      | some (.ob (.ms m))=>some ⟨ops,r,d,iid,n,seen,m,k,mid,bNat (Nat.beq iid mid)⟩
      | _=>none
     | _=>none
    | _=>none
   | _,_,_=>none
  | _,_=>none
 | _=>none
where bNat:Bool→Bool
 | true=>false
 | false=>true
def nxOk (o:Option NxI):Bool:=match o with
 | some I=>I.mv
 | none=>false
def nxM (o:Option NxI):List (List UInt8×V1):=match o with
 | some I=>I.m
 | none=>[]
def nxS (o:Option NxI):List Nat:=match o with
 | some I=>I.seen
 | none=>[]
def nxN (o:Option NxI):Nat:=match o with
 | some I=>I.n
 | none=>0
def nxK (o:Option NxI):List KI:=match o with
 | some I=>I.k
 | none=>[]
def nxSt (I:NxI) (st:St) (j:Nat) (key:List UInt8) (v:V1):St :=
 (st.set (.bk I.iid) (.bk (.ob (.mi I.mid I.n (j::I.seen))))).set (.tm I.d) (.tv (.tup [.c (.bool true),.c (.str key),v]))
def nxSt0 (I:NxI) (st:St):St:=st.set (.tm I.d) (.tv (.tup [.c (.bool false)]))
def nxRun (P:Program) (G:Nat→Option (List Cell)) (N base:Nat) (o:Option NxI) (f:NxI→St):Option Out:=match o with
 | some I=>runOps (envOf P N I.ops.toList ({}:Ann P G)) [] base 1 I.r (f I)
 | none=>none
def nxOut (o:Option Out) (I:Option NxI) (base:Nat):St:=match I with
 | some I=>outSt o I.ops base
 | none=>⟨[],[],0⟩
def noE (o:Option Out):Bool:=match o with
 | some o=>no1 o.vc
 | none=>false
where no1:List Prop→Bool
 | []=>true
 | _=>false
theorem bNat_eq {b:Bool} (h:nxInfo.bNat b=true):b=false:=by cases b<;>simp_all [nxInfo.bNat]
theorem born_nodup {D:Dat} {m:List (List UInt8×V1)} {es:List MapEntry} (he:EsOk D m es 0):∀ e∈es,∃ j key v,m[j]?=some (key,v)∧e.key = .string ⟨key.toArray⟩∧FlatV D v e.val∧e.born=j∧j<m.length:=by
 intro e hm
 obtain ⟨j,hj,rfl⟩:=List.getElem_of_mem hm
 have hlt:j<m.length:=by rw [← he.1];exact hj
 have hmj:m[j]?=some ((m[j]).1,(m[j]).2):=by rw [List.getElem?_eq_getElem hlt]
 obtain ⟨en,q1,q2,q3,q4⟩:=he.2 j _ _ hmj
 rw [List.getElem?_eq_getElem hj] at q1
 simp only [Option.some.injEq] at q1
 subst q1
 exact ⟨j,_,_,hmj,q2,q3,by omega,hlt⟩
section
variable {P:Program} {G:Nat→Option (List Cell)} {N kn:Nat} {k:List KI} {Q:St→Prop} {st st':St}
theorem Wp.nextM (hI:nxOk (nxInfo N k st)=true) (hn:nxN (nxInfo N k st)=(nxM (nxInfo N k st)).length)
  (step:∀ j key v,(nxM (nxInfo N k st))[j]?=some (key,v)→j∉nxS (nxInfo N k st) →
   ∃ o,nxRun P G N st.nx (nxInfo N k st) (fun I=>nxSt I st j key v)=o∧noE o=true∧outE o=outF o∧Wp P G N kn (nxK (nxInfo N k st)) Q (nxOut o (nxInfo N k st) st.nx))
  (over:(∀ j,j<(nxM (nxInfo N k st)).length→j∈nxS (nxInfo N k st)) →
   ∃ o,nxRun P G N st.nx (nxInfo N k st) (fun I=>nxSt0 I st)=o∧noE o=true∧outE o=outF o∧Wp P G N kn (nxK (nxInfo N k st)) Q (nxOut o (nxInfo N k st) st.nx)) :
  Wp P G N kn k Q st:=by
 generalize hII:nxInfo N k st=I0 at hI hn step over
 cases I0 with
 | none=>simp [nxOk] at hI
 | some I =>
 have hmv:I.mv=true:=hI
 simp only [nxN,nxM,nxS,nxK] at hn step over
 unfold nxInfo at hII
 split at hII<;>try (cases hII)
 rename_i id ops k
 split at hII<;>try (cases hII)
 rename_i o r hops hok
 split at hII<;>try (cases hII)
 rename_i d t hg hdst hop
 split at hII<;>try (cases hII)
 rename_i iid hlt
 split at hII<;>try (cases hII)
 rename_i mid n seen hli
 split at hII<;>try (cases hII)
 rename_i m hlm
 have hne:iid≠mid:=(beq_ne _ _).1 (bNat_eq hmv)
 intro Γ h1 h2 h3 h4 a w hs
 subst h1 h2 h3
 simp only at step over hn
 refine wp_region ?_
 rw [List.range_eq_range',← Array.length_toList,hops]
 have hall:=hok
 obtain ⟨ok1,ok23⟩:=bAnd_eq hok
 obtain ⟨ok2,ok3⟩:=bAnd_eq ok23
 rw [hops] at ok1 ok2
 obtain ⟨D,ρ,h⟩:=hs
 obtain ⟨u,hu,hd⟩:=h.tm t _ hlt
 have hx:a.eval (.tmp t) = .pointer (some ⟨(ρ iid).1,0,none⟩):=by rw [tmps_getD hu];exact hd
 obtain ⟨h0,oi,hbo,ho⟩:=h.hp iid _ hli
 have ho:oi = .mapIter (some (ρ mid).1) n seen.reverse.toArray n:=ho
 subst ho
 obtain ⟨hm0,es,hbm,he⟩:=map_obj h hlm
 have hsz:es.toList.length=m.length:=he.1
 have hsz':es.size=m.length:=by rw [← hsz];simp
 have hdN:d<Γ.N:=by
  have:=allLt_lt ok2 d (by simp [dstL,hdst])
  exact this
 have hops0:ops[0]?=some o:=by
  have:ops.toList[0]?=some o:=by rw [hops];rfl
  simpa using this
 have hdr:ops.toList.drop (0+1)=r:=by rw [hops];rfl
 have hold:∀ x∈es.toList,x.born<n:=by
  intro x hx
  obtain ⟨j,_,_,_,_,_,hb,hj⟩:=born_nodup he x hx
  rw [hb,hn];exact hj
 have fin:∀ (v:Value) (w':World) (s1:St) (oo:Option Out),(Instr.next (a.eval (.tmp t)) false o.type).run Γ.P w = .ok v w' →
   Sat Γ (fun id=>id<st.nx) (fun x=>x=d) D ρ s1 (a.put (some d) v) w' →
   runOps (envOf Γ.P Γ.N ops.toList ({}:Ann Γ.P Γ.G)) [] st.nx 1 r s1=oo→noE oo=true→outE oo=outF oo→Wp Γ.P Γ.G Γ.N kn k Q (outSt oo ops st.nx) →
   wpOps Γ.P ops (fun e a' w'=>∃ st',post Γ k Q e st'∧Sat0 Γ st' a' w') (List.range' 0 (o::r).length) a w:=by
  intro v w' s1 oo hrun hsat hro hnoe hef hwp
  cases oo with
  | none=>simp [noE] at hnoe
  | some out =>
   simp only [List.length_cons,List.range'_succ]
   have hw:Region.wanted o (yielded ops a.tmps)=true:=by simp [Region.wanted,hg]
   simp only [wpOps,hops0,hw,if_true]
   left
   unfold Oper.wp
   have hex:(execOp a.eval o).run Γ.P w = .ok (.value v) w':=by
    unfold execOp
    rw [hop]
    simp only [Sem.run_bind,hrun,Result.andThen_ok,Sem.run_pure]
   rw [hex]
   simp only [Oper.upon_value]
   rw [hdst]
   simp only [outE,outF,Prod.mk.injEq] at hef
   refine run_text (Γ:=Γ) (E:=envOf Γ.P Γ.N ops.toList ({}:Ann Γ.P Γ.G)) rfl rfl (cs:=[]) rfl hall (base:=st.nx) r (0+1) s1 _ w' out hdr hro ?_ hef.1 hef.2 ⟨D,ρ,?_⟩ ?_
   ·intro p hp
    cases hv:out.vc with
    | nil=>rw [hv] at hp; cases hp
    | cons q l=>simp [noE,noE.no1,hv] at hnoe
   ·refine hsat.mono (fun id h => ?_) (fun x hx => ?_)
    ·unfold sSet;omega
    ·subst hx
     exact ⟨0,by omega,o,by rw [hops];rfl,hdst⟩
   ·intro a' w'' h
    refine ⟨_,hwp Γ rfl rfl rfl h4,?_⟩
    simp only [outSt,len_eq]
    refine SatE.done (fun id h => ?_) h
    unfold sSet at h
    have:(0+1)+r.length=ops.toList.length:=by rw [hops];simp;omega
    rw [this] at h;exact h
 rcases run_next_at (P:=Γ.P) w o.type (ρ iid).1 (ρ mid).1 n n seen.reverse.toArray es es.size hbo hbm hold (Nat.le_refl _) with ⟨hl0,hrun⟩ | ⟨e,hmem,w1,hw1,hrun⟩
 ·
  have hallseen:∀ j,j<m.length→j∈seen:=by
   intro j hj
   have hmj:m[j]?=some ((m[j]).1,(m[j]).2):=by rw [List.getElem?_eq_getElem hj]
   obtain ⟨en,q1,q2,q3,q4⟩:=he.2 j _ _ hmj
   have hin:en∈es.toList:=List.mem_of_getElem? q1
   have hse:=all_seen es seen.reverse.toArray hl0 en hin
   have:en.born=j:=by omega
   rw [this] at hse
   simpa using hse
  obtain ⟨oo,p1,p2,p3,p4⟩:=over hallseen
  refine fin _ _ _ oo (by rw [hx];exact hrun) ?_ p1 p2 p3 p4
  refine h.put (W':=fun x=>x=d) hdN (fun hh=>hh) (fun t ht=>ht.elim) (v := .tup [.c (.bool false)]) ⟨_,rfl,rfl,fun j x hj => ?_⟩ (fun j x hj => ?_)
  ·match j,hj with
   | 0,hj=>simp at hj; subst hj; exact ⟨_,rfl,rfl⟩
   | j+1,hj=>simp at hj
  ·match j,hj with
   | 0,hj=>simp at hj; subst hj; trivial
   | j+1,hj=>simp at hj
 ·obtain ⟨hem,hes⟩:=mem_left hmem
  obtain ⟨j,key,v,hmj,q2,q3,q4,hjl⟩:=born_nodup he e hem
  have hns:j∉seen:=by
   intro hh
   have:seen.reverse.toArray.contains e.born=true:=by simp [q4,hh]
   rw [this] at hes;cases hes
  obtain ⟨oo,p1,p2,p3,p4⟩:=step j key v hmj hns
  have hs1:Sat Γ (fun id=>id<st.nx) (fun _=>False) D ρ st a w1:=by
   rcases hw1 with rfl | rfl
   ·exact h
   ·exact h.drew
  have hbo1:w1.heap[(ρ iid).1]?=some (.mapIter (some (ρ mid).1) n seen.reverse.toArray n):=by
   rcases hw1 with rfl | rfl
   ·exact hbo
   ·exact hbo
  have hone:=(setObj_run (P:=Γ.P) hbo1 trivial (o' := .mapIter (some (ρ mid).1) n (seen.reverse.toArray.push e.born) es.size))
  have hid:=h.idH iid _ hli
  have hup:=hs1.upd hli h0 hone.2 (b' := .ob (.mi mid n (j::seen))) ⟨h0,_,hone.2.at_,by
   show Obj.mapIter _ _ _ _=Obj.mapIter _ _ _ _
   rw [q4]
   congr 1
   ·simp
   ·omega⟩ hid.2
  refine fin _ _ _ oo (by rw [hx];exact hrun) ?_ p1 p2 p3 p4
  refine hup.put (W':=fun x=>x=d) hdN (fun hh=>hh) (fun t ht=>ht.elim) (v := .tup [.c (.bool true),.c (.str key),v]) ⟨_,rfl,rfl,fun i x hi => ?_⟩ (fun i x hi => ?_)
  ·match i,hi with
   | 0,hi=>simp at hi; subst hi; exact ⟨_,rfl,rfl⟩
   | 1,hi=>simp at hi; subst hi; exact ⟨_,rfl,q2⟩
   | 2,hi=>simp at hi; subst hi; exact ⟨_,rfl,q3.1 ρ⟩
   | i+3,hi=>simp at hi
  ·match i,hi with
   | 0,hi=>simp at hi; subst hi; trivial
   | 1,hi=>simp at hi; subst hi; trivial
   | 2,hi=>simp at hi; subst hi; exact q3.2 _
   | i+3,hi=>simp at hi
def Nx (P:Program) (G:Nat→Option (List Cell)) (N kn:Nat) (k:List KI) (Q:St→Prop) (st:St) (f:NxI→St):Prop :=
 ∃ o,nxRun P G N st.nx (nxInfo N k st) f=o∧noE o=true∧outE o=outF o∧Wp P G N kn (nxK (nxInfo N k st)) Q (nxOut o (nxInfo N k st) st.nx)
theorem Nx.mk {f:NxI→St} (h1:noE (nxRun P G N st.nx (nxInfo N k st) f)=true) (h2:outE (nxRun P G N st.nx (nxInfo N k st) f)=outF (nxRun P G N st.nx (nxInfo N k st) f))
  (h3:Wp P G N kn (nxK (nxInfo N k st)) Q (nxOut (nxRun P G N st.nx (nxInfo N k st) f) (nxInfo N k st) st.nx)):Nx P G N kn k Q st f:=⟨_,rfl,h1,h2,h3⟩
theorem Wp.nextK (m:List (List UInt8×V1)) (seen:List Nat) (hI:nxOk (nxInfo N k st)=true) (hm:nxM (nxInfo N k st)=m) (hs:nxS (nxInfo N k st)=seen) (hn:nxN (nxInfo N k st)=m.length)
  (step:∀ j key v,m[j]?=some (key,v)→j∉seen→Nx P G N kn k Q st (fun I=>nxSt I st j key v))
  (over:(∀ j,j<m.length→j∈seen)→Nx P G N kn k Q st (fun I=>nxSt0 I st)):Wp P G N kn k Q st:=by
 subst hm hs
 exact Wp.nextM hI hn step over
theorem seen_more {n j:Nat} {seen:List Nat} (hd:seen.Nodup) (hl:∀ x∈seen,x<n) (hj:j<n) (hns:j∉seen):(j::seen).Nodup∧(∀ x∈j::seen,x<n)∧n-(j::seen).length<n-seen.length:=by
 have h1:(j::seen).Nodup:=List.nodup_cons.2 ⟨hns,hd⟩
 have h2:∀ x∈j::seen,x<n:=fun x hx=>by
  rcases List.mem_cons.1 hx with rfl | h
  ·exact hj
  ·exact hl x h
 have h3:=nodup_le h1 h2
 refine ⟨h1,h2,?_⟩
 simp only [List.length_cons] at h3 ⊢
 omega
end
end Go.Sv
end
section
open Go Go.Sv Go.RowKit
namespace Go.Proofs.Tw
attribute [local irreducible] Wp FinQ resV Ent Pur Go.Sv.Fn Sat0
set_option maxRecDepth 100000
set_option maxHeartbeats 4000000
variable {G:Nat→Option (List Cell)}
def wrd (s:List UInt8):List (List UInt8):=if scErr (scL s)=0 then scL s else []
def scOk (s:List UInt8):Bool:=scErr (scL s)==0
theorem scE_tail:∀ (l seen:List (List UInt8)),scE seen l=0→∀ k,k<l.length→isIn (seen++l.take k) (l.getD k [])=false
 | [],_,_,k,hk=>by simp at hk
 | w::r,seen,h,k,hk=>by
  rw [scE] at h
  split at h
  ·split at h
   ·cases h
   ·rename_i h2
    cases k with
    | zero=>simpa using h2
    | succ k =>
     have:=scE_tail r (seen++[w]) h k (by simpa using hk)
     simpa using this
  ·cases h
theorem wrd_new (s:List UInt8) (k:Nat) (hk:k<(wrd s).length):((wrd s).take k).contains ((wrd s).getD k [])=false:=by
 unfold wrd at hk ⊢
 split at hk
 ·rename_i h
  rw [if_pos h]
  have h0:scE [] (scL s)=0:=by
   unfold scErr at h
   split at h
   ·cases h
   ·exact h
  have:=scE_tail _ _ h0 k hk
  rw [List.nil_append] at this
  rw [← this]
  unfold isIn
  rw [List.any_beq']
 ·simp at hk
theorem words_ok {m:Int} (hG:G 0=some [.int .i64 m]) (s:List UInt8) (hs:s.length<1000000000):FnB Tryz.prog G 83 [] [.c (.str s)] [.c (.map 0),.c (.bool (scOk s))] [(0,.ob (.ms (seenL (wrd s))))]:=by
 have c:=scParse_ok hG s hs
 have hn:=wrd_new s
 unfold scV at c
 refine zf Tryz.func83 ?_
 by_cases h:scErr (scL s)=0
 ·rw [if_pos h] at c
  have h1:scOk s=true:=by unfold scOk;rw [h];rfl
  have h2:wrd s=scL s:=if_pos h
  rw [h1]
  rw [h2] at hn ⊢
  have hlen:(scL s).length<1000000000000:=by
   unfold scErr at h
   split at h
   ·cases h
   ·omega
  generalize scL s=l at c hn hlen
  clear h h1 h2
  refine z0 [(1,{cs:=[(1,pc c)]})] [] ?_
  refine zl (fun (k:Nat)=>⟨[(5,.v (.c (.int .i64 (0:Int)))),(6,.v (.c (.map (144:Nat)))),(15,.v (.c (.sl (1:Nat) l.length (strsF l)))),(16,.v (.c (.int .i64 (↑l.length:Int)))),(17,.v (.c (.int .i64 (k:Int))))],[(144,.ob (Ob.ms (seenL (l.take k))))],224⟩) (fun k=>k≤l.length) (fun k=>l.length-k) 0 (Nat.zero_le _) ?_
  intro k L hk again
  rcases Nat.lt_or_ge k l.length with hlt | hge
  ·have e2:BlkEqv (.ob (.ms (mset (seenL (l.take k)) (l.getD k []) (.c (.bool true))))) (.ob (.ms (seenL (l.take (k+1))))):=BlkEqv.of_eq (by rw [seenL_set _ _ (hn k hlt),List.take_succ];simp [List.getD,hlt])
   refine zg [(6,{bs:=[(2,.ob (.ms (seenL (l.take (k+1)))))]})] [true] [decide ((k:Int)<(l.length:Int))=true,(0:Int)≤(k:Int)∧(k:Int)<(l.length:Int),BlkEqv (.ob (Ob.ms (mset (seenL (List.take k l)) (l.getD k []) (.c (.bool true))))) (.ob (Ob.ms (seenL (List.take (k+1) l)))),inR .i64 ((k:Int)+1)] ⟨sO,oM,aS,i6⟩ ?_
   exact za [] (again _ (k+1) aS oM)
  ·rw [List.take_of_length_le hge] at *
   refine zg [] [false] [decide ((k:Int)<(l.length:Int))=false] (oN sO) ?_
   exact zb [144]
 ·rw [if_neg h] at c
  have h1:scOk s=false:=by unfold scOk;simp [h]
  have h2:wrd s=[]:=if_neg h
  rw [h1,h2]
  generalize scErr (scL s)=e at c h
  have h3:(e==0)=false:=by simp [h]
  refine z0 [(1,{cs:=[(1,pc c)]})] [] ?_
  refine zl (fun (k:Nat)=>⟨[(5,.v (.c (.int .i64 e))),(6,.v (.c (.map (144:Nat)))),(15,.v (.c .nilsl)),(16,.v (.c (.int .i64 (0:Int)))),(17,.v (.c (.int .i64 (0:Int))))],[(144,.ob (Ob.ms []))],224⟩) (fun k=>k≤0) (fun k=>0-k) 0 (Nat.zero_le _) ?_
  intro k L hk again
  refine zg [] [false] [decide ((0:Int)<(0:Int))=false] rfl ?_
  refine Wp.ret' kR ?_
  exact FinQ.blkE (rs':=[V1.c (Cell.map (0:Nat)),V1.c (Cell.bool (e==(0:Int)))]) (hout':=[(0,Blk.ob (Ob.ms (seenL [])))]) (by simp [seenL, *]) [144] kR kR kR kR kR trivial
theorem seenL_len (l:List (List UInt8)):(seenL l).length=l.length:=List.length_map _
theorem seenL_key {l:List (List UInt8)} {j:Nat} (h:j<l.length):((seenL l).getD j ([],.c .nilif)).1=l.getD j []:=by
 simp [seenL,List.getD,h]
theorem seenL_at {l:List (List UInt8)} {j:Nat} {key:List UInt8} {v:V1} (h:(seenL l)[j]?=some (key,v)):j<l.length∧key=l.getD j []∧v = .c (.bool true):=by
 unfold seenL at h
 rw [List.getElem?_map] at h
 cases hj:l[j]? with
 | none=>rw [hj] at h; cases h
 | some x =>
  rw [hj] at h
  simp only [Option.map_some,Option.some.injEq,Prod.mk.injEq] at h
  obtain ⟨hlt,hx⟩:=List.getElem?_eq_some_iff.1 hj
  exact ⟨hlt,by rw [← h.1];simp [List.getD,hj],h.2.symm⟩
def wiT (a b:List UInt8):Bool:=scOk a&&(scOk b&&(wrd a).all fun w=>(wrd b).contains w)
theorem scWithin_ok {m:Int} (hG:G 0=some [.int .i64 m]) (s t:List UInt8) (hs:s.length<1000000000) (ht:t.length<1000000000):Pur Tryz.prog G 65 [.c (.str s),.c (.str t)] [.c (.bool (wiT s t))]:=by
 have c1:=words_ok hG s hs
 have c2:=words_ok hG t ht
 refine zp Tryz.func65 ?_
 unfold wiT
 generalize wrd s=A at c1 ⊢
 generalize wrd t=B at c2 ⊢
 generalize scOk s=p at c1 ⊢
 generalize scOk t=q at c2 ⊢
 refine z0 [(1,{cs:=[(1,cb [] c1)]}),(2,{cs:=[(1,cb [] c2)]})] [] ?_
 refine zl (fun (x:List Nat)=>⟨[(6,.v (.c (.bool p))),(7,.v (.c (.map (144:Nat)))),(8,.v (.c (.bool q))),(21,.v (.c (.ptr (256:Nat) (0:Nat))))],[(32,.ob (Ob.ms (seenL A))),(144,.ob (Ob.ms (seenL B))),(256,.ob (Ob.mi (32:Nat) (seenL A).length x))],272⟩) (fun x=>x.Nodup∧(∀ j∈x,j<A.length)∧∀ j∈x,B.contains (A.getD j [])=true) (fun x=>A.length-x.length) [] ⟨List.nodup_nil,fun _ h=>(by cases h),fun _ h=>(by cases h)⟩ ?_
 rintro seen L ⟨hnd,hlt,hall⟩ again
 refine zn [] 1 [] [] trivial ?_
 refine Wp.nextK (seenL A) seen kR kR kR kR (fun j key v hj hns => ?_) (fun hover => ?_)
 ·obtain ⟨hjl,rfl,rfl⟩:=seenL_at hj
  refine Nx.mk kR kR ?_
  have e0:EqvD (mget (seenL B) (A.getD j []) (.c (.bool false))) (.c (.bool (B.contains (A.getD j [])))):=eqvD_of (seenL_get _ _)
  have e1:EqvI (mget (seenL B) (A.getD j []) (.c (.bool false))) (.c (.bool (B.contains (A.getD j [])))):=fun _ _=>trivial
  have e2:EqvD (.c (.str ((seenL A).getD j ([],.c .nilif)).1)) (.c (.str (A.getD j []))):=eqvD_of (by rw [seenL_key hjl])
  have hjs:j<(seenL A).length:=by rw [seenL_len];exact hjl
  cases hc:B.contains (A.getD j []) with
  | true =>
   obtain ⟨m1,m2,m3⟩:=seen_more hnd hlt hjl hns
   have m4:∀ i∈j::seen,B.contains (A.getD i [])=true:=fun i hi=>by
    rcases List.mem_cons.1 hi with rfl | h
    ·exact hc
    ·exact hall i h
   refine zg [(5,{fm:=[(1,.c (.str (A.getD j [])))]}),(6,{fm:=[(2,.c (.bool (B.contains (A.getD j []))))]})] [true,false] [true=true,j<(seenL A).length,(seenL A).length=(seenL A).length,EqvI (.c (.str ((seenL A).getD j ([],.c .nilif)).fst)) (.c (.str (A.getD j []))),EqvD (.c (.str ((seenL A).getD j ([],.c .nilif)).fst)) (.c (.str (A.getD j []))),EqvI (mget (seenL B) (A.getD j []) (.c (.bool false))) (.c (.bool (B.contains (A.getD j [])))),EqvD (mget (seenL B) (A.getD j []) (.c (.bool false))) (.c (.bool (B.contains (A.getD j [])))),(!B.contains (A.getD j []))=false] ⟨rfl,aS,rfl,fun _ _=>trivial,aS,fun _ _=>trivial,aS,(show (!B.contains (A.getD j []))=false from (by simp_all<;>omega))⟩ ?_
   exact za [] (again _ (j::seen) ⟨aS,⟨aS,aS⟩⟩ oM)
  | false =>
   have hr:(p&&(q&&A.all fun w=>B.contains w))=false:=by
    have:(A.all fun w=>B.contains w)=false:=List.all_eq_false.2 ⟨A.getD j [],strs_mem hjl,by rw [hc];decide⟩
    rw [this];simp
   rw [hr]
   refine zg [(5,{fm:=[(1,.c (.str (A.getD j [])))]}),(6,{fm:=[(2,.c (.bool (B.contains (A.getD j []))))]})] [true,true] [true=true,j<(seenL A).length,(seenL A).length=(seenL A).length,EqvI (.c (.str ((seenL A).getD j ([],.c .nilif)).fst)) (.c (.str (A.getD j []))),EqvD (.c (.str ((seenL A).getD j ([],.c .nilif)).fst)) (.c (.str (A.getD j []))),EqvI (mget (seenL B) (A.getD j []) (.c (.bool false))) (.c (.bool (B.contains (A.getD j [])))),EqvD (mget (seenL B) (A.getD j []) (.c (.bool false))) (.c (.bool (B.contains (A.getD j [])))),(!B.contains (A.getD j []))=true] ⟨rfl,aS,rfl,fun _ _=>trivial,aS,fun _ _=>trivial,aS,(show (!B.contains (A.getD j []))=true from (by simp_all<;>omega))⟩ ?_
   exact zr
 ·refine Nx.mk kR kR ?_
  have hr:(A.all fun w=>B.contains w)=true:=List.all_eq_true.2 fun w hw=>by
   obtain ⟨i,hi,rfl⟩:=List.getElem_of_mem hw
   have:=hall i (hover i (by simpa [seenL] using hi))
   simpa [List.getD,hi] using this
  rw [hr,Bool.and_true]
  refine zg [] [false] [false=false] rfl ?_
  exact zS [.c (.bool (bif p then q else false))] (by simp;done)
def encN (k:Int):List Cell:=[.int .i64 2,.int .i64 k,.str [],.nilsl]
theorem N_ok (k:Int):Pur Tryz.prog G 45 [.c (.int .i64 k)] [.agg (encN k)]:=by
 refine zp Tryz.func45 ?_
 refine z0 [] [] ?_
 exact zr
theorem kids2_ok:Pur Tryz.prog G 119 [.c (.int .i64 2)] [.c (.int .i64 0)]:=by
 refine zp Tryz.func119 ?_
 refine zg [] [false,true] [((2:Int)==(1:Int))=false,((2:Int)==(2:Int))=true] ⟨rfl,rfl⟩ ?_
 exact zr
theorem walkN_ok (k:Int) (h0:0≤k) (h1:k≤1073741824):Pur Tryz.prog G 104 [.agg (encN k),.c (.int .i64 1),.c (.int .i64 64)] [.c (.int .i64 63)]:=by
 refine zp Tryz.func104 ?_
 have a1:decide (k<0)=false:=by simp;omega
 have a2:decide (k>1073741824)=false:=by simp;omega
 refine zg [(1,{cs:=[(9,pc kids2_ok)]})] [false] [(bif bif bif bif bif bif bif decide ((64:Int)<(1:Int)) then true else decide ((1:Int)>(16:Int)) then true else (0:Int) != (0:Int) then true else bif (2:Int) != (1:Int) then !([]:List UInt8)==[] else false then true else decide ((↑([]:List UInt8).length:Int)>(1024:Int)) then true else bif (2:Int) != (2:Int) then k != (0:Int) else false then true else decide (k<(0:Int)) then true else decide (k>(1073741824:Int)))=false,inR .i64 (64-1)] ⟨sO,i6⟩ ?_
 refine zl (fun (_:Nat)=>⟨[(1,.v (.c (.int .i64 1))),(2,.v (.c (.int .i64 ((64:Int)-1)))),(3,.v (.c (.ptr 0 0))),(7,.v (.c (.int .i64 0)))],[(0,.box 101 (encN k))],912⟩) (fun _=>True) (fun k=>k) 0 trivial ?_
 intro _ L _ again
 refine zg [] [false] [(bif decide ((0:Int)<(0:Int)) then decide ((64:Int)-(1:Int)≥(0:Int)) else false)=false] rfl ?_
 exact zr
theorem MayN_ok (k:Int) (h0:0≤k) (h1:k≤1073741824):Pur Tryz.prog G 81 [.agg (encN k)] [.c (.bool true)]:=by
 refine zp Tryz.func81 ?_
 have c:=walkN_ok (G:=G) k h0 h1
 refine z0 [(1,{cs:=[(1,pc c)]})] [] ?_
 exact zr
def byteN (k:Int) (j:Nat):UInt8:=UInt8.ofNat (IntKind.u8.wrap (k.fdiv (2^(8*(3-j))))).toNat
theorem byteN_eq (k:Int) (j:Nat):IntKind.u8.wrap (k.fdiv (2^(8*(3-j))))=((byteN k j).toNat:Int):=by
 unfold byteN
 generalize k.fdiv (2^(8*(3-j)))=x
 have h:0≤IntKind.u8.wrap x∧IntKind.u8.wrap x<256:=by simp [IntKind.wrap,IntKind.bits,IntKind.signed];omega
 obtain ⟨y,hy⟩:=Int.eq_ofNat_of_zero_le h.1
 rw [hy] at h ⊢
 simp only [Int.toNat_natCast]
 have:(UInt8.ofNat y).toNat=y:=by simp;omega
 rw [this]
def numInv (k:Int) (x:Nat×Nat×List UInt8):St:=match x.1 with
 | 0=>⟨[(0,TV.v (V1.c (Cell.row 1 0 0 x.2.1))),(1,TV.v (V1.c (Cell.int .i64 k))),(7,TV.v (V1.c (Cell.int .i64 (3-(x.1:Int)))))],[(0,Blk.row 5 1 x.2.1 (bytesF x.2.2))],65⟩
 | _+1=>⟨[(0,TV.v (V1.c (Cell.row 1 49 0 x.2.1))),(1,TV.v (V1.c (Cell.int .i64 k))),(7,TV.v (V1.c (Cell.int .i64 (3-(x.1:Int)))))],[(49,Blk.row 5 1 x.2.1 (bytesF x.2.2))],65⟩
theorem num_ok (n:Nat) (l:List UInt8) (hn:n=l.length) (hm:n≤1000) (k:Int):FnB Tryz.prog G 105 [.row 5 1 n (bytesF l)] [.c (.row 1 0 0 n),.c (.int .i64 k),.c (.int .i64 4)] [.c (.row 1 1 0 (n+1+1+1+1))] [(1,.row 5 1 (n+1+1+1+1) (bytesF ((((l++[byteN k 0])++[byteN k 1])++[byteN k 2])++[byteN k 3])))]:=by
 refine zf Tryz.func105 ?_
 refine zg [] [] [inR .i64 (4-1)] (inR64 dC dC) ?_
 refine zl (numInv k) (fun x=>x=(0,n,l)∨x=(1,n+1,(l++[byteN k 0]))∨x=(2,n+1+1,((l++[byteN k 0])++[byteN k 1]))∨x=(3,n+1+1+1,(((l++[byteN k 0])++[byteN k 1])++[byteN k 2]))∨x=(4,n+1+1+1+1,((((l++[byteN k 0])++[byteN k 1])++[byteN k 2])++[byteN k 3]))) (fun x=>4-x.1) (0,n,l) (Or.inl rfl) ?_
 intro x L hx again
 rcases hx with rfl | rfl | rfl | rfl | rfl
 ·have hl:n=(l).length:=by simp [hn]
  have e1:BlkEqv (.row 5 1 (n+1) (catF (n) (bytesF l) (fun i j=>nthD [.int .u8 (IntKind.u8.wrap (k.fdiv (2^(8*(3-0)))))] ((0+i)*1+j)))) (.row 5 1 (n+1) (bytesF (l++[byteN k 0]))):=by
   rw [byteN_eq k 0];exact bytes_app l [byteN k 0] hl
  have hnx:((1,n+1,(l++[byteN k 0])):Nat×Nat×List UInt8)=(1,n+1,(l++[byteN k 0])):=rfl
  refine zg [(4,{bs:=[(7,.row 5 1 (n+1) (bytesF (l++[byteN k 0])))]})] [true] [decide ((3:Int)-(↑(0:Nat):Int)≥(0:Int))=true,inR .i64 ((8:Int)*((3:Int)-(↑(0:Nat):Int))),(0:Int)≤(8:Int)*((3:Int)-(↑(0:Nat):Int)),(n+1)*1≤140737488355328,BlkEqv (.row 5 (1:Nat) (n+(1:Nat)) (catF n (bytesF l) fun i j=>nthD [.int .u8 (IntKind.u8.wrap (k.fdiv ((2:Int)^(24:Nat))))] (((0:Nat)+i)*(1:Nat)+j))) (.row 5 (1:Nat) (n+(1:Nat)) (bytesF (l++[byteN k (0:Nat)]))),n≤n,0+1≤1,inR .i64 ((3:Int)-(↑(0:Nat):Int)-(1:Int))] ⟨rfl,i6,oM,oM,aS,oM,oM,i6⟩ ?_
  exact za [(49,209)] (again _ (1,n+1,(l++[byteN k 0])) (by simp;done) oM)
 ·have hl:n+1=((l++[byteN k 0])).length:=by simp [hn]
  have e1:BlkEqv (.row 5 1 (n+1+1) (catF (n+1) (bytesF (l++[byteN k 0])) (fun i j=>nthD [.int .u8 (IntKind.u8.wrap (k.fdiv (2^(8*(3-1)))))] ((0+i)*1+j)))) (.row 5 1 (n+1+1) (bytesF ((l++[byteN k 0])++[byteN k 1]))):=by
   rw [byteN_eq k 1];exact bytes_app (l++[byteN k 0]) [byteN k 1] hl
  have hnx:((2,n+1+1,((l++[byteN k 0])++[byteN k 1])):Nat×Nat×List UInt8)=(2,n+1+1,((l++[byteN k 0])++[byteN k 1])):=rfl
  refine zg [(4,{bs:=[(7,.row 5 1 (n+1+1) (bytesF ((l++[byteN k 0])++[byteN k 1])))]})] [true] [decide ((3:Int)-(↑(1:Nat):Int)≥(0:Int))=true,inR .i64 ((8:Int)*((3:Int)-(↑(1:Nat):Int))),(0:Int)≤(8:Int)*((3:Int)-(↑(1:Nat):Int)),(n+1+1)*1≤140737488355328,BlkEqv (.row 5 (1:Nat) (n+(1:Nat)+(1:Nat)) (catF (n+(1:Nat)) (bytesF (l++[byteN k (0:Nat)])) fun i j=>nthD [.int .u8 (IntKind.u8.wrap (k.fdiv ((2:Int)^(16:Nat))))] (((0:Nat)+i)*(1:Nat)+j))) (.row 5 (1:Nat) (n+(1:Nat)+(1:Nat)) (bytesF (l++[byteN k (0:Nat)]++[byteN k (1:Nat)]))),n+1≤n+1,0+1≤1,inR .i64 ((3:Int)-(↑(1:Nat):Int)-(1:Int))] ⟨rfl,i6,oM,oM,aS,oM,oM,i6⟩ ?_
  exact za [(49,209)] (again _ (2,n+1+1,((l++[byteN k 0])++[byteN k 1])) (by simp;done) oM)
 ·have hl:n+1+1=(((l++[byteN k 0])++[byteN k 1])).length:=by simp [hn]
  have e1:BlkEqv (.row 5 1 (n+1+1+1) (catF (n+1+1) (bytesF ((l++[byteN k 0])++[byteN k 1])) (fun i j=>nthD [.int .u8 (IntKind.u8.wrap (k.fdiv (2^(8*(3-2)))))] ((0+i)*1+j)))) (.row 5 1 (n+1+1+1) (bytesF (((l++[byteN k 0])++[byteN k 1])++[byteN k 2]))):=by
   rw [byteN_eq k 2];exact bytes_app ((l++[byteN k 0])++[byteN k 1]) [byteN k 2] hl
  have hnx:((3,n+1+1+1,(((l++[byteN k 0])++[byteN k 1])++[byteN k 2])):Nat×Nat×List UInt8)=(3,n+1+1+1,(((l++[byteN k 0])++[byteN k 1])++[byteN k 2])):=rfl
  refine zg [(4,{bs:=[(7,.row 5 1 (n+1+1+1) (bytesF (((l++[byteN k 0])++[byteN k 1])++[byteN k 2])))]})] [true] [decide ((3:Int)-(↑(2:Nat):Int)≥(0:Int))=true,inR .i64 ((8:Int)*((3:Int)-(↑(2:Nat):Int))),(0:Int)≤(8:Int)*((3:Int)-(↑(2:Nat):Int)),(n+1+1+1)*1≤140737488355328,BlkEqv (.row 5 (1:Nat) (n+(1:Nat)+(1:Nat)+(1:Nat)) (catF (n+(1:Nat)+(1:Nat)) (bytesF (l++[byteN k (0:Nat)]++[byteN k (1:Nat)])) fun i j=>nthD [.int .u8 (IntKind.u8.wrap (k.fdiv ((2:Int)^(8:Nat))))] (((0:Nat)+i)*(1:Nat)+j))) (.row 5 (1:Nat) (n+(1:Nat)+(1:Nat)+(1:Nat)) (bytesF (l++[byteN k (0:Nat)]++[byteN k (1:Nat)]++[byteN k (2:Nat)]))),n+1+1≤n+1+1,0+1≤1,inR .i64 ((3:Int)-(↑(2:Nat):Int)-(1:Int))] ⟨rfl,i6,oM,oM,aS,oM,oM,i6⟩ ?_
  exact za [(49,209)] (again _ (3,n+1+1+1,(((l++[byteN k 0])++[byteN k 1])++[byteN k 2])) (by simp;done) oM)
 ·have hl:n+1+1+1=((((l++[byteN k 0])++[byteN k 1])++[byteN k 2])).length:=by simp [hn]
  have e1:BlkEqv (.row 5 1 (n+1+1+1+1) (catF (n+1+1+1) (bytesF (((l++[byteN k 0])++[byteN k 1])++[byteN k 2])) (fun i j=>nthD [.int .u8 (IntKind.u8.wrap (k.fdiv (2^(8*(3-3)))))] ((0+i)*1+j)))) (.row 5 1 (n+1+1+1+1) (bytesF ((((l++[byteN k 0])++[byteN k 1])++[byteN k 2])++[byteN k 3]))):=by
   rw [byteN_eq k 3];exact bytes_app (((l++[byteN k 0])++[byteN k 1])++[byteN k 2]) [byteN k 3] hl
  have hnx:((4,n+1+1+1+1,((((l++[byteN k 0])++[byteN k 1])++[byteN k 2])++[byteN k 3])):Nat×Nat×List UInt8)=(4,n+1+1+1+1,((((l++[byteN k 0])++[byteN k 1])++[byteN k 2])++[byteN k 3])):=rfl
  refine zg [(4,{bs:=[(7,.row 5 1 (n+1+1+1+1) (bytesF ((((l++[byteN k 0])++[byteN k 1])++[byteN k 2])++[byteN k 3])))]})] [true] [decide ((3:Int)-(↑(3:Nat):Int)≥(0:Int))=true,inR .i64 ((8:Int)*((3:Int)-(↑(3:Nat):Int))),(0:Int)≤(8:Int)*((3:Int)-(↑(3:Nat):Int)),(n+1+1+1+1)*1≤140737488355328,BlkEqv (.row 5 (1:Nat) (n+(1:Nat)+(1:Nat)+(1:Nat)+(1:Nat)) (catF (n+(1:Nat)+(1:Nat)+(1:Nat)) (bytesF (l++[byteN k (0:Nat)]++[byteN k (1:Nat)]++[byteN k (2:Nat)])) fun i j=>nthD [.int .u8 (IntKind.u8.wrap (k.fdiv ((2:Int)^(0:Nat))))] (((0:Nat)+i)*(1:Nat)+j))) (.row 5 (1:Nat) (n+(1:Nat)+(1:Nat)+(1:Nat)+(1:Nat)) (bytesF (l++[byteN k (0:Nat)]++[byteN k (1:Nat)]++[byteN k (2:Nat)]++[byteN k (3:Nat)]))),n+1+1+1≤n+1+1+1,0+1≤1,inR .i64 ((3:Int)-(↑(3:Nat):Int)-(1:Int))] ⟨rfl,i6,oM,oM,aS,oM,oM,i6⟩ ?_
  exact za [(49,209)] (again _ (4,n+1+1+1+1,((((l++[byteN k 0])++[byteN k 1])++[byteN k 2])++[byteN k 3])) (by simp;done) oM)
 ·refine zg [] [false] [decide ((3:Int)-(↑(4:Nat):Int)≥(0:Int))=false] rfl ?_
  exact zb [49]
def keyB (k:Int):List UInt8:=((([2]++[byteN k 0])++[byteN k 1])++[byteN k 2])++[byteN k 3]
theorem putN_ok (k:Int):FnB Tryz.prog G 82 [] [.c .nilsl,.agg (encN k)] [.c (.row 1 0 0 5)] [(0,.row 5 1 5 (bytesF (keyB k)))]:=by
 refine zf Tryz.func82 ?_
 have e1:BlkEqv (.row 5 1 1 (catF 0 (fun _ _ => .nilif) (fun i j=>nthD [.int .u8 (IntKind.u8.wrap 2)] ((0+i)*1+j)))) (.row 5 1 1 (bytesF [2])):=by
  refine BlkEqv.row_ext rfl fun i hi j hj => ?_
  obtain ⟨rfl,rfl⟩:i=0∧j=0:=by omega
  rfl
 have c:FnB Tryz.prog G 105 [.row 5 1 1 (bytesF [2])] [.c (.row 1 0 0 1),.c (.int .i64 k),.c (.int .i64 4)] [.c (.row 1 1 0 5)] [(1,.row 5 1 5 (bytesF (keyB k)))]:=num_ok 1 [2] rfl dC k
 refine zg [(1,{bs:=[(5,.row 5 1 1 (bytesF [2]))]}),(6,{cs:=[(3,cb [112] c)]})] [false,true] [1≤140737488355328,BlkEqv (.row 5 (1:Nat) (1:Nat) (catF (0:Nat) (fun (x x_1:Nat) => .nilif) fun i j=>nthD [.int .u8 (IntKind.u8.wrap (2:Int))] (((0:Nat)+i)*(1:Nat)+j))) (.row 5 (1:Nat) (1:Nat) (bytesF [(2:UInt8)])),0+1≤1,((2:Int)==(1:Int))=false,((2:Int)==(2:Int))=true] ⟨oM,aS,oM,rfl,rfl⟩ ?_
 refine zl (fun (_:Nat)=>⟨[(0,.v (.c (.row 1 288 0 5))),(3,.v (.c (.ptr 0 0))),(5,.v (.c (.int .i64 0)))],[(0,.box 101 (encN k)),(288,.row 5 1 5 (bytesF (keyB k)))],336⟩) (fun _=>True) (fun k=>k) 0 trivial ?_
 intro _ L _ again
 refine zg [] [false] [decide ((0:Int)<(0:Int))=false] rfl ?_
 exact zb [288]
def sgs:List UInt8:=[65,66,67,68,69,70,71,72,73,74,75,76,77,78,79,80,81,82,83,84,85,86,87,88,89,90,97,98,99,100,101,102,103,104,105,106,107,108,109,110,111,112,113,114,115,116,117,118,119,120,121,122,48,49,50,51,52,53,54,55,56,57,45,95]
def v3 (b:List UInt8) (i:Nat):Nat→Int
 | 0=>0
 | k+1=>if i+k<b.length then v3 b i k*256+((b.getD (i+k) 0).toNat:Int) else v3 b i k*256
def n3 (b:List UInt8) (i:Nat):Nat→Nat
 | 0=>0
 | k+1=>if i+k<b.length then n3 b i k+1 else n3 b i k
theorem n3_le (b:List UInt8) (i:Nat):∀ k,n3 b i k≤k
 | 0=>Nat.le_refl _
 | k+1=>by have:=n3_le b i k; unfold n3; split<;>omega
theorem v3_lt (b:List UInt8) (i:Nat):∀ k,k≤3→0≤v3 b i k∧v3 b i k<256^k
 | 0,_=>⟨Int.le_refl 0,Int.zero_lt_one⟩
 | k+1,h=>by
  have:=v3_lt b i k oM
  have hc:=UInt8.toNat_lt (b.getD (i+k) 0)
  have hp:(256:Int)^(k+1)=256^k*256:=Int.pow_succ _ _
  unfold v3;rw [hp];split<;>omega
def encO (b:List UInt8):Nat×Option (Nat×List UInt8)→St
 | (g,none)=>⟨[(0,.v (.c (.sl 1 b.length (bytesF b)))),(3,.v (.c .nilsl)),(4,.v (.c (.int .i64 ((3*g:Nat):Int))))],[],48⟩
 | (g,some (n,l))=>⟨[(0,.v (.c (.sl 1 b.length (bytesF b)))),(3,.v (.c (.row 1 40 0 n))),(4,.v (.c (.int .i64 ((3*g:Nat):Int))))],[(40,.row 5 1 n (bytesF l))],48⟩
def enc1 (b:List UInt8) (g:Nat) (o:Option (Nat×List UInt8)) (x:Nat×Int×Nat):St:=match o with
 | none=>⟨[(0,.v (.c (.sl 1 b.length (bytesF b)))),(3,.v (.c .nilsl)),(4,.v (.c (.int .i64 ((3*g:Nat):Int)))),(5,.v (.c (.int .i64 x.2.1))),(6,.v (.c (.int .i64 (x.2.2:Int)))),(7,.v (.c (.int .i64 (x.1:Int))))],[],400⟩
 | some (n,l)=>⟨[(0,.v (.c (.sl 1 b.length (bytesF b)))),(3,.v (.c (.row 1 40 0 n))),(4,.v (.c (.int .i64 ((3*g:Nat):Int)))),(5,.v (.c (.int .i64 x.2.1))),(6,.v (.c (.int .i64 (x.2.2:Int)))),(7,.v (.c (.int .i64 (x.1:Int))))],[(40,.row 5 1 n (bytesF l))],400⟩
def enc2 (b:List UInt8) (g:Nat) (v:Int) (m:Nat):Nat×Option (Nat×List UInt8)→St
 | (k,none)=>⟨[(0,.v (.c (.sl 1 b.length (bytesF b)))),(3,.v (.c .nilsl)),(4,.v (.c (.int .i64 ((3*g:Nat):Int)))),(5,.v (.c (.int .i64 v))),(6,.v (.c (.int .i64 (m:Int)))),(8,.v (.c (.int .i64 (k:Int))))],[],800⟩
 | (k,some (n,l))=>⟨[(0,.v (.c (.sl 1 b.length (bytesF b)))),(3,.v (.c (.row 1 40 0 n))),(4,.v (.c (.int .i64 ((3*g:Nat):Int)))),(5,.v (.c (.int .i64 v))),(6,.v (.c (.int .i64 (m:Int)))),(8,.v (.c (.int .i64 (k:Int))))],[(40,.row 5 1 n (bytesF l))],800⟩
def six (v:Int) (k:Nat):Int:=(v.fdiv (2^(18-6*k)))%64
def sgn6 (v:Int) (k:Nat):UInt8:=sgs.getD (six v k).toNat 0
def sgs6 (v:Int):Nat→List UInt8
 | 0=>[]
 | k+1=>sgs6 v k++[sgn6 v k]
def grp (b:List UInt8) (g:Nat):List UInt8:=sgs6 (v3 b (3*g) 3) (n3 b (3*g) 3+1)
def encG (b:List UInt8):Nat→List UInt8
 | 0=>[]
 | g+1=>encG b g++grp b g
def enc8 (b:List UInt8):List UInt8:=encG b ((b.length+2) / 3)
def encOF (b:List UInt8):Nat×Option (Nat×List UInt8)→Prop
 | (g,none)=>g=0
 | (g,some (n,l))=>0<g∧3*g<b.length+3∧l=encG b g∧n=l.length∧n≤4*g
def enc1F (b:List UInt8) (g:Nat) (x:Nat×Int×Nat):Prop:=x.1≤3∧x.2.1=v3 b (3*g) x.1∧x.2.2=n3 b (3*g) x.1
def enc2F (b:List UInt8) (g:Nat) (v:Int) (m:Nat):Nat×Option (Nat×List UInt8)→Prop
 | (k,none)=>k=0∧g=0
 | (k,some (n,l))=>k≤m+1∧l=encG b g++sgs6 v k∧n=l.length∧n+(m+1-k)≤4*(g+1)
theorem v3_16 (b:List UInt8) (i k:Nat) (h:k≤3):0≤v3 b i k∧v3 b i k<16777216:=by
 have:=v3_lt b i k h
 have:k=0∨k=1∨k=2∨k=3:=by omega
 rcases this with rfl | rfl | rfl | rfl<;>simp at *<;>omega
theorem wrap_b (c:UInt8):IntKind.i64.wrap ((c.toNat:Nat):Int)=((c.toNat:Nat):Int):=eq_of_beq (byte_all (fun c=>IntKind.i64.wrap ((c.toNat:Nat):Int)==((c.toNat:Nat):Int)) kR c)
theorem v3_in (b:List UInt8) (i k:Nat) (h:i+k<b.length):v3 b i k*256+IntKind.i64.wrap ((b.getD ((i:Int)+(k:Int)).toNat 0).toNat:Int)=v3 b i (k+1):=by
 have e:((i:Int)+(k:Int)).toNat=i+k:=by omega
 rw [wrap_b,e,v3,if_pos h]
theorem bits63 (x:Int) (h:0≤x∧x<2^62):bitsI .and .i64 x 63=x%64:=by
 obtain ⟨n,rfl⟩:=Int.eq_ofNat_of_zero_le h.1
 have e:(BitVec.ofInt 64 (n:Int) &&& BitVec.ofInt 64 63).toNat=n%64:=by
  rw [BitVec.toNat_and]
  have e1:(BitVec.ofInt 64 (n:Int)).toNat=n:=by
   rw [BitVec.toNat_ofInt];omega
  have e2:(BitVec.ofInt 64 63).toNat=2^6-1:=rfl
  rw [e1,e2,Nat.and_two_pow_sub_one_eq_mod]
 show IntKind.i64.wrap ((BitVec.ofInt 64 (n:Int) &&& BitVec.ofInt 64 63).toNat)=_
 rw [e]
 simp [IntKind.wrap,IntKind.bits,IntKind.signed]
 omega
theorem six_is (v:Int) (k:Nat) (hk:k≤3) (hv:0≤v∧v<16777216):bitsI .and .i64 (v.fdiv (2^min (18-6*(k:Int)).toNat IntKind.i64.bits)) 63=six v k:=by
 have e:min (18-6*(k:Int)).toNat IntKind.i64.bits=18-6*k:=by show min _ 64=_;omega
 rw [e,bits63];· rfl
 have h1:(0:Int)≤2^(18-6*k):=Int.le_of_lt (Int.pow_pos dC)
 rw [Int.fdiv_eq_ediv_of_nonneg _ h1]
 exact ⟨Int.ediv_nonneg hv.1 h1,Int.lt_of_le_of_lt (Int.ediv_le_self _ hv.1) oM⟩
theorem row_new (x:Int) (c:UInt8) (hx:x=(c.toNat:Int)):BlkEqv (.row 5 1 1 (catF 0 (fun _ _ => .nilif) (fun i j=>nthD [.int .u8 x] ((0+i)*1+j)))) (.row 5 1 1 (bytesF [c])):=by
 subst hx
 refine BlkEqv.row_ext rfl fun i hi j hj => ?_
 obtain ⟨rfl,rfl⟩:i=0∧j=0:=by omega
 rfl
theorem enc8_ok (b:List UInt8) (hl:b.length≤30000000000000):Pur Tryz.prog G 63 [.c (.sl 1 b.length (bytesF b))] [.c (.str (enc8 b))]:=by
 refine zp Tryz.func63 ?_
 refine z0 [] [] ?_
 refine zl (encO b) (encOF b) (fun x=>b.length+3-3*x.1) (0,none) rfl ?_
 rintro ⟨g,_ | ⟨n,l⟩⟩ L hf again0
 ·rcases hf with rfl
  rcases Nat.lt_or_ge (3*0) b.length with hlt | hge
  ·have ht:decide ((↑(3*0):Int)<(↑b.length:Int))=true:=by simp;omega
   refine zg [] [true] [decide ((↑(3*0):Int)<(b.length:Int))=true] ht ?_
   refine zl (enc1 b 0 none) (enc1F b 0) (fun x=>3-x.1) (0,0,0) ⟨Nat.zero_le _,rfl,rfl⟩ ?_
   rintro ⟨k,v,m⟩ L1 ⟨hk,hv,hm⟩ again
   have hm3:=n3_le b (3*0) k
   have hv3:=v3_16 b (3*0) k hk
   have hv4:=v3_16 b (3*0) (k+1)
   have hin:=v3_in b (3*0) k
   simp only [] at hk hv hm
   rw [← hv] at hv3 hin
   rw [← hm] at hm3
   rcases Nat.lt_or_ge k 3 with hk3 | hk3
   ·have h3:decide ((k:Int)<3)=true:=by simp;omega
    have hv5:=hv4 hk3
    clear hv4 ht
    have r1:inR .i64 (v*256):=i6
    have r2:inR .i64 ((m:Int)+1):=i6
    rcases Nat.lt_or_ge (3*0+k) b.length with hc | hc
    ·have hin:=hin hc
     rw [← hin] at hv5
     have r3:inR .i64 (v*256+IntKind.i64.wrap ((b.getD (((3*0:Nat):Int)+(k:Int)).toNat 0).toNat:Int)):=i6
     have hnx:enc1F b 0 (k+1,v*256+IntKind.i64.wrap ((b.getD (((3*0:Nat):Int)+(k:Int)).toNat 0).toNat:Int),m+1):=⟨hk3,hin,by show m+1=_;rw [hm,n3,if_pos hc]⟩
     have hc2:decide (((3*0:Nat):Int)+(k:Int)<(b.length:Int))=true:=by simp;omega
     refine zg [] [true,true] [decide ((k:Int)<3)=true,inR .i64 (v*256),inR .i64 ((↑((3:Nat)*(0:Nat)):Int)+(k:Int)),decide ((↑((3:Nat)*(0:Nat)):Int)+(k:Int)<(b.length:Int))=true,inR .i64 ((↑((3:Nat)*(0:Nat)):Int)+(k:Int)),(0:Int)≤(↑((3:Nat)*(0:Nat)):Int)+(k:Int)∧(↑((3:Nat)*(0:Nat)):Int)+(k:Int)<(b.length:Int),inR .i64 (v*(256:Int)+IntKind.i64.wrap (↑(b.getD ((↑((3:Nat)*(0:Nat)):Int)+(k:Int)).toNat (0:UInt8)).toNat:Int)),inR .i64 ((m:Int)+1),inR .i64 ((k:Int)+1)] ⟨aS,i6,i6,aS,i6,oM,i6,i6,i6⟩ ?_
     exact za [] (again _ (k+1,v*256+IntKind.i64.wrap ((b.getD (((3*0:Nat):Int)+(k:Int)).toNat 0).toNat:Int),m+1) aS oM)
    ·clear hin
     have hnx:enc1F b 0 (k+1,v*256,m):=⟨hk3,by show v*256=_;rw [hv,v3,if_neg oM],by show m=_;rw [hm,n3,if_neg oM]⟩
     have hc2:decide (((3*0:Nat):Int)+(k:Int)<(b.length:Int))=false:=by simp;omega
     refine zg [] [true,false] [decide ((k:Int)<3)=true,inR .i64 (v*256),inR .i64 ((↑((3:Nat)*(0:Nat)):Int)+(k:Int)),decide ((↑((3:Nat)*(0:Nat)):Int)+(k:Int)<(b.length:Int))=false,inR .i64 ((k:Int)+1)] ⟨aS,i6,i6,aS,i6⟩ ?_
     exact za [] (again _ (k+1,v*256,m) aS oM)
   ·obtain rfl:k=3:=by omega
    have h3:decide ((↑(3:Nat):Int)<3)=false:=rfl
    refine zg [] [false] [decide ((↑(3:Nat):Int)<(3:Int))=false] rfl ?_
    refine zl (enc2 b 0 v m) (enc2F b 0 v m) (fun x=>m+1-x.1) (0,none) ⟨rfl,rfl⟩ ?_
    clear again
    rintro ⟨k,_ | ⟨n,l⟩⟩ L2 hf again
    ·obtain ⟨rfl,h00⟩:=hf
     have h3:decide ((↑(0:Nat):Int)≤(m:Int))=true:=by simp
     have hx:=eqvD_of (congrArg (fun x=>V1.c (.int .i64 x)) (six_is v 0 dC hv3))
     have hs:0≤six v 0∧six v 0<((64:Nat):Int):=by unfold six;omega
     have e1:=row_new ((([65,66,67,68,69,70,71,72,73,74,75,76,77,78,79,80,81,82,83,84,85,86,87,88,89,90,97,98,99,100,101,102,103,104,105,106,107,108,109,110,111,112,113,114,115,116,117,118,119,120,121,122,48,49,50,51,52,53,54,55,56,57,45,95]:List UInt8).getD (six v 0).toNat 0).toNat:Int) (sgn6 v 0) rfl
     have hnx:enc2F b 0 v m (1,some (1,[sgn6 v 0])):=⟨by omega,by first | rfl | omega,rfl,by omega⟩
     refine zg [(15,{fm:=[(6,.c (.int .i64 (six v 0)))],bs:=[(9,.row 5 1 1 (bytesF [sgn6 v 0]))]})] [true] [decide ((↑(0:Nat):Int)≤(m:Int))=true,inR .i64 ((6:Int)*(↑(0:Nat):Int)),inR .i64 ((18:Int)-(6:Int)*(↑(0:Nat):Int)),(0:Int)≤(18:Int)-(6:Int)*(↑(0:Nat):Int),EqvI (.c (.int .i64 (bitsI .and .i64 (v.fdiv ((2:Int)^(18:Nat))) (63:Int)))) (.c (.int .i64 (six v (0:Nat)))),EqvD (.c (.int .i64 (bitsI .and .i64 (v.fdiv ((2:Int)^(18:Nat))) (63:Int)))) (.c (.int .i64 (six v (0:Nat)))),(0:Int)≤six v (0:Nat)∧six v (0:Nat)<(↑(64:Nat):Int),1≤140737488355328,BlkEqv (.row 5 (1:Nat) (1:Nat) (catF (0:Nat) (fun (x x_1:Nat) => .nilif) fun i j=>nthD [.int .u8 (↑([(65:UInt8),66,67,68,69,70,71,72,73,74,75,76,77,78,79,80,81,82,83,84,85,86,87,88,89,90,97,98,99,100,101,102,103,104,105,106,107,108,109,110,111,112,113,114,115,116,117,118,119,120,121,122,48,49,50,51,52,53,54,55,56,57,45,95].getD (six v (0:Nat)).toNat (0:UInt8)).toNat:Int)] (((0:Nat)+i)*(1:Nat)+j))) (.row 5 (1:Nat) (1:Nat) (bytesF [sgn6 v (0:Nat)])),0+1≤1,inR .i64 ((↑(0:Nat):Int)+(1:Int))] ⟨rfl,i6,i6,oM,fun _ _=>trivial,aS,oM,oM,aS,oM,i6⟩ ?_
     exact za [(40,992)] (again _ (1,some (1,[sgn6 v 0])) aS oM)
    ·obtain ⟨hk,hl1,hn,hb⟩:=hf
     rcases Nat.lt_or_ge m k with hk3 | hk3
     ·obtain rfl:k=m+1:=by omega
      have again:=again0
      have hv':=hv
      have hm':=hm
      have hnx:encOF b (0+1,some (n,l)):=⟨by omega,by omega,by rw [hl1,hv',hm'];rfl,hn,by omega⟩
      clear hv hm hv' hm' hl1 hin
      refine zg [] [false] [decide ((↑(m+(1:Nat)):Int)≤(m:Int))=false,inR .i64 ((↑((3:Nat)*(0:Nat)):Int)+(3:Int))] ⟨sO,i6⟩ ?_
      exact za [] (again _ (0+1,some (n,l)) aS oM)
     ·have hx:=eqvD_of (congrArg (fun x=>V1.c (.int .i64 x)) (six_is v k oM hv3))
      have hs:0≤six v k∧six v k<((64:Nat):Int):=by unfold six;omega
      have e1:BlkEqv (.row 5 1 (n+1) (catF n (bytesF l) (fun i j=>nthD [.int .u8 ((([65,66,67,68,69,70,71,72,73,74,75,76,77,78,79,80,81,82,83,84,85,86,87,88,89,90,97,98,99,100,101,102,103,104,105,106,107,108,109,110,111,112,113,114,115,116,117,118,119,120,121,122,48,49,50,51,52,53,54,55,56,57,45,95]:List UInt8).getD (six v k).toNat 0).toNat:Int)] ((0+i)*1+j)))) (.row 5 1 (n+1) (bytesF (l++[sgn6 v k]))):=bytes_app l [sgn6 v k] hn
      have hnx:enc2F b 0 v m (k+1,some (n+1,l++[sgn6 v k])):=⟨by omega,by rw [hl1,List.append_assoc];rfl,by simp [hn],by omega⟩
      clear hl1 hin
      refine zg [(15,{fm:=[(6,.c (.int .i64 (six v k)))],bs:=[(9,.row 5 1 (n+1) (bytesF (l++[sgn6 v k])))]})] [true] [decide ((k:Int)≤(m:Int))=true,inR .i64 (6*(k:Int)),inR .i64 (18-6*(k:Int)),(0:Int)≤(18:Int)-(6:Int)*(k:Int),EqvI (.c (.int .i64 (bitsI .and .i64 (v.fdiv ((2:Int)^min ((18:Int)-(6:Int)*(k:Int)).toNat IntKind.i64.bits)) (63:Int)))) (.c (.int .i64 (six v k))),EqvD (.c (.int .i64 (bitsI .and .i64 (v.fdiv ((2:Int)^min ((18:Int)-(6:Int)*(k:Int)).toNat IntKind.i64.bits)) (63:Int)))) (.c (.int .i64 (six v k))),(0:Int)≤six v k∧six v k<(↑(64:Nat):Int),(n+1)*1≤140737488355328,BlkEqv (.row 5 (1:Nat) (n+(1:Nat)) (catF n (bytesF l) fun i j=>nthD [.int .u8 (↑([(65:UInt8),66,67,68,69,70,71,72,73,74,75,76,77,78,79,80,81,82,83,84,85,86,87,88,89,90,97,98,99,100,101,102,103,104,105,106,107,108,109,110,111,112,113,114,115,116,117,118,119,120,121,122,48,49,50,51,52,53,54,55,56,57,45,95].getD (six v k).toNat (0:UInt8)).toNat:Int)] (((0:Nat)+i)*(1:Nat)+j))) (.row 5 (1:Nat) (n+(1:Nat)) (bytesF (l++[sgn6 v k]))),n≤n,0+1≤1,inR .i64 ((k:Int)+1)] ⟨sO,i6,i6,oM,fun _ _=>trivial,aS,oM,oM,aS,oM,oM,i6⟩ ?_
      exact za [(40,992)] (again _ (k+1,some (n+1,l++[sgn6 v k])) aS oM)
  ·clear again0
   refine zg [] [false] [decide ((↑((3:Nat)*(0:Nat)):Int)<(b.length:Int))=false] (show decide ((↑((3:Nat)*(0:Nat)):Int)<(↑b.length:Int))=false from (by simp_all<;>omega)) ?_
   exact zS [.c (.str [])] (by rw [show b=[] from List.eq_nil_of_length_eq_zero oM];rfl)
 ·rcases hf with ⟨hg,hgl,hl0,hn0,hn1⟩
  rcases Nat.lt_or_ge (3*g) b.length with hlt | hge
  ·have ht:decide ((↑(3*g):Int)<(↑b.length:Int))=true:=by simp;omega
   refine zg [] [true] [decide ((↑(3*g):Int)<(b.length:Int))=true] ht ?_
   refine zl (enc1 b g (some (n,l))) (enc1F b g) (fun x=>3-x.1) (0,0,0) ⟨Nat.zero_le _,rfl,rfl⟩ ?_ [(40,40)]
   rintro ⟨k,v,m⟩ L1 ⟨hk,hv,hm⟩ again
   have hm3:=n3_le b (3*g) k
   have hv3:=v3_16 b (3*g) k hk
   have hv4:=v3_16 b (3*g) (k+1)
   have hin:=v3_in b (3*g) k
   simp only [] at hk hv hm
   rw [← hv] at hv3 hin
   rw [← hm] at hm3
   rcases Nat.lt_or_ge k 3 with hk3 | hk3
   ·have h3:decide ((k:Int)<3)=true:=by simp;omega
    have hv5:=hv4 hk3
    clear hv4 ht
    have r1:inR .i64 (v*256):=i6
    have r2:inR .i64 ((m:Int)+1):=i6
    rcases Nat.lt_or_ge (3*g+k) b.length with hc | hc
    ·have hin:=hin hc
     rw [← hin] at hv5
     have r3:inR .i64 (v*256+IntKind.i64.wrap ((b.getD (((3*g:Nat):Int)+(k:Int)).toNat 0).toNat:Int)):=i6
     have hnx:enc1F b g (k+1,v*256+IntKind.i64.wrap ((b.getD (((3*g:Nat):Int)+(k:Int)).toNat 0).toNat:Int),m+1):=⟨hk3,hin,by show m+1=_;rw [hm,n3,if_pos hc]⟩
     have hc2:decide (((3*g:Nat):Int)+(k:Int)<(b.length:Int))=true:=by simp;omega
     refine zg [] [true,true] [decide ((k:Int)<3)=true,inR .i64 (v*256),inR .i64 ((↑((3:Nat)*g):Int)+(k:Int)),decide ((↑((3:Nat)*g):Int)+(k:Int)<(b.length:Int))=true,inR .i64 ((↑((3:Nat)*g):Int)+(k:Int)),(0:Int)≤(↑((3:Nat)*g):Int)+(k:Int)∧(↑((3:Nat)*g):Int)+(k:Int)<(b.length:Int),inR .i64 (v*(256:Int)+IntKind.i64.wrap (↑(b.getD ((↑((3:Nat)*g):Int)+(k:Int)).toNat (0:UInt8)).toNat:Int)),inR .i64 ((m:Int)+1),inR .i64 ((k:Int)+1)] ⟨aS,i6,i6,aS,i6,oM,i6,i6,i6⟩ ?_
     exact za [] (again _ (k+1,v*256+IntKind.i64.wrap ((b.getD (((3*g:Nat):Int)+(k:Int)).toNat 0).toNat:Int),m+1) aS oM)
    ·clear hin
     have hnx:enc1F b g (k+1,v*256,m):=⟨hk3,by show v*256=_;rw [hv,v3,if_neg oM],by show m=_;rw [hm,n3,if_neg oM]⟩
     have hc2:decide (((3*g:Nat):Int)+(k:Int)<(b.length:Int))=false:=by simp;omega
     refine zg [] [true,false] [decide ((k:Int)<3)=true,inR .i64 (v*256),inR .i64 ((↑((3:Nat)*g):Int)+(k:Int)),decide ((↑((3:Nat)*g):Int)+(k:Int)<(b.length:Int))=false,inR .i64 ((k:Int)+1)] ⟨aS,i6,i6,aS,i6⟩ ?_
     exact za [] (again _ (k+1,v*256,m) aS oM)
   ·obtain rfl:k=3:=by omega
    have h3:decide ((↑(3:Nat):Int)<3)=false:=rfl
    refine zg [] [false] [decide ((↑(3:Nat):Int)<(3:Int))=false] rfl ?_
    refine zl (enc2 b g v m) (enc2F b g v m) (fun x=>m+1-x.1) (0,some (n,l)) ⟨Nat.zero_le _,hl0.trans (List.append_nil _).symm,hn0,(by have:=n3_le b (3*g) 3;omega)⟩ ?_ [(40,40)]
    clear again
    rintro ⟨k,_ | ⟨n,l⟩⟩ L2 hf again
    ·obtain ⟨rfl,h00⟩:=hf
     have h3:decide ((↑(0:Nat):Int)≤(m:Int))=true:=by simp
     have hx:=eqvD_of (congrArg (fun x=>V1.c (.int .i64 x)) (six_is v 0 dC hv3))
     have hs:0≤six v 0∧six v 0<((64:Nat):Int):=by unfold six;omega
     have e1:=row_new ((([65,66,67,68,69,70,71,72,73,74,75,76,77,78,79,80,81,82,83,84,85,86,87,88,89,90,97,98,99,100,101,102,103,104,105,106,107,108,109,110,111,112,113,114,115,116,117,118,119,120,121,122,48,49,50,51,52,53,54,55,56,57,45,95]:List UInt8).getD (six v 0).toNat 0).toNat:Int) (sgn6 v 0) rfl
     have hnx:enc2F b g v m (1,some (1,[sgn6 v 0])):=⟨by omega,by first | rfl | omega,rfl,by omega⟩
     refine zg [(15,{fm:=[(6,.c (.int .i64 (six v 0)))],bs:=[(9,.row 5 1 1 (bytesF [sgn6 v 0]))]})] [true] [decide ((↑(0:Nat):Int)≤(m:Int))=true,inR .i64 ((6:Int)*(↑(0:Nat):Int)),inR .i64 ((18:Int)-(6:Int)*(↑(0:Nat):Int)),(0:Int)≤(18:Int)-(6:Int)*(↑(0:Nat):Int),EqvI (.c (.int .i64 (bitsI .and .i64 (v.fdiv ((2:Int)^(18:Nat))) (63:Int)))) (.c (.int .i64 (six v (0:Nat)))),EqvD (.c (.int .i64 (bitsI .and .i64 (v.fdiv ((2:Int)^(18:Nat))) (63:Int)))) (.c (.int .i64 (six v (0:Nat)))),(0:Int)≤six v (0:Nat)∧six v (0:Nat)<(↑(64:Nat):Int),1≤140737488355328,BlkEqv (.row 5 (1:Nat) (1:Nat) (catF (0:Nat) (fun (x x_1:Nat) => .nilif) fun i j=>nthD [.int .u8 (↑([(65:UInt8),66,67,68,69,70,71,72,73,74,75,76,77,78,79,80,81,82,83,84,85,86,87,88,89,90,97,98,99,100,101,102,103,104,105,106,107,108,109,110,111,112,113,114,115,116,117,118,119,120,121,122,48,49,50,51,52,53,54,55,56,57,45,95].getD (six v (0:Nat)).toNat (0:UInt8)).toNat:Int)] (((0:Nat)+i)*(1:Nat)+j))) (.row 5 (1:Nat) (1:Nat) (bytesF [sgn6 v (0:Nat)])),0+1≤1,inR .i64 ((↑(0:Nat):Int)+(1:Int))] ⟨rfl,i6,i6,oM,fun _ _=>trivial,aS,oM,oM,aS,oM,i6⟩ ?_
     exact za [(40,992)] (again _ (1,some (1,[sgn6 v 0])) aS oM)
    ·obtain ⟨hk,hl1,hn,hb⟩:=hf
     rcases Nat.lt_or_ge m k with hk3 | hk3
     ·obtain rfl:k=m+1:=by omega
      have again:=again0
      have hv':=hv
      have hm':=hm
      have hnx:encOF b (g+1,some (n,l)):=⟨by omega,by omega,by rw [hl1,hv',hm'];rfl,hn,by omega⟩
      clear hv hm hv' hm' hl1 hin
      refine zg [] [false] [decide ((↑(m+(1:Nat)):Int)≤(m:Int))=false,inR .i64 ((↑((3:Nat)*g):Int)+(3:Int))] ⟨sO,i6⟩ ?_
      exact za [] (again _ (g+1,some (n,l)) aS oM)
     ·have hx:=eqvD_of (congrArg (fun x=>V1.c (.int .i64 x)) (six_is v k oM hv3))
      have hs:0≤six v k∧six v k<((64:Nat):Int):=by unfold six;omega
      have e1:BlkEqv (.row 5 1 (n+1) (catF n (bytesF l) (fun i j=>nthD [.int .u8 ((([65,66,67,68,69,70,71,72,73,74,75,76,77,78,79,80,81,82,83,84,85,86,87,88,89,90,97,98,99,100,101,102,103,104,105,106,107,108,109,110,111,112,113,114,115,116,117,118,119,120,121,122,48,49,50,51,52,53,54,55,56,57,45,95]:List UInt8).getD (six v k).toNat 0).toNat:Int)] ((0+i)*1+j)))) (.row 5 1 (n+1) (bytesF (l++[sgn6 v k]))):=bytes_app l [sgn6 v k] hn
      have hnx:enc2F b g v m (k+1,some (n+1,l++[sgn6 v k])):=⟨by omega,by rw [hl1,List.append_assoc];rfl,by simp [hn],by omega⟩
      clear hl1 hin
      refine zg [(15,{fm:=[(6,.c (.int .i64 (six v k)))],bs:=[(9,.row 5 1 (n+1) (bytesF (l++[sgn6 v k])))]})] [true] [decide ((k:Int)≤(m:Int))=true,inR .i64 (6*(k:Int)),inR .i64 (18-6*(k:Int)),(0:Int)≤(18:Int)-(6:Int)*(k:Int),EqvI (.c (.int .i64 (bitsI .and .i64 (v.fdiv ((2:Int)^min ((18:Int)-(6:Int)*(k:Int)).toNat IntKind.i64.bits)) (63:Int)))) (.c (.int .i64 (six v k))),EqvD (.c (.int .i64 (bitsI .and .i64 (v.fdiv ((2:Int)^min ((18:Int)-(6:Int)*(k:Int)).toNat IntKind.i64.bits)) (63:Int)))) (.c (.int .i64 (six v k))),(0:Int)≤six v k∧six v k<(↑(64:Nat):Int),(n+1)*1≤140737488355328,BlkEqv (.row 5 (1:Nat) (n+(1:Nat)) (catF n (bytesF l) fun i j=>nthD [.int .u8 (↑([(65:UInt8),66,67,68,69,70,71,72,73,74,75,76,77,78,79,80,81,82,83,84,85,86,87,88,89,90,97,98,99,100,101,102,103,104,105,106,107,108,109,110,111,112,113,114,115,116,117,118,119,120,121,122,48,49,50,51,52,53,54,55,56,57,45,95].getD (six v k).toNat (0:UInt8)).toNat:Int)] (((0:Nat)+i)*(1:Nat)+j))) (.row 5 (1:Nat) (n+(1:Nat)) (bytesF (l++[sgn6 v k]))),n≤n,0+1≤1,inR .i64 ((k:Int)+1)] ⟨sO,i6,i6,oM,fun _ _=>trivial,aS,oM,oM,aS,oM,oM,i6⟩ ?_
      exact za [(40,992)] (again _ (k+1,some (n+1,l++[sgn6 v k])) aS oM)
  ·clear again0
   refine zg [] [false] [decide ((↑((3:Nat)*g):Int)<(b.length:Int))=false,0+n≤n,areBytes (bytesF l) 0 n] ⟨sO,oM,areBytes_F _ _ _⟩ ?_
   exact zS [.c (.str (byteL (bytesF l) (0:Nat) n))] (by rw [byteL_F l hn0,hl0,enc8,show g=(b.length+2) / 3 by omega])
theorem putN_ok2 (k:Int) (h0:0≤k) (h1:k≤1073741824):FnB Tryz.prog G 62 [] [.agg (encN k)] [.c (.row 1 0 0 5)] [(0,.row 5 1 5 (bytesF (keyB k)))]:=by
 refine zf Tryz.func62 ?_
 have c1:=MayN_ok (G:=G) k h0 h1
 have c2:=putN_ok (G:=G) k
 refine zg [(1,{cs:=[(1,pc c1)]}),(3,{cs:=[(1,cb [] c2)]})] [false] [(!true)=false] rfl ?_
 exact zb [96]
def keyT (k:Int):List UInt8:=[126]++enc8 (keyB k)++[126]
theorem keyText_ok (k:Int) (h0:0≤k) (h1:k≤1073741824):Pur Tryz.prog G 44 [.agg (encN k)] [.c (.str (keyT k))]:=by
 refine zp Tryz.func44 ?_
 have c1:=putN_ok2 (G:=G) k h0 h1
 have c2:Pur Tryz.prog G 63 [.c (.sl 1 5 (bytesF (keyB k)))] [.c (.str (enc8 (keyB k)))]:=enc8_ok (keyB k) (show 5≤30000000000000 by omega)
 refine zg [(1,{cs:=[(1,cb [] c1)]}),(4,{cs:=[(1,lc [48] [.row 5 1 5 (bytesF (keyB k))] [.c (.row 1 0 0 5)] c2 kR kR kR (show 0+5≤5 from oM))]})] [false] [((↑(5:Nat):Int)==(0:Int))=false,8≤9223372036854775807,9≤9223372036854775807] ⟨rfl,oM,(show (9:Nat)≤(9223372036854775807:Nat) from oM)⟩ ?_
 exact zS [.c (.str [(126:UInt8),sgn6 (v3 (keyB k) ((3:Nat)*0) (3:Nat)) (0),sgn6 (v3 (keyB k) ((3:Nat)*0) (3:Nat)) (1),sgn6 (v3 (keyB k) ((3:Nat)*0) (3:Nat)) (2),sgn6 (v3 (keyB k) ((3:Nat)*0) (3:Nat)) (3),sgn6 (v3 (keyB k) ((3:Nat)*1) (3:Nat)) (0),sgn6 (v3 (keyB k) ((3:Nat)*1) (3:Nat)) (1),sgn6 (v3 (keyB k) ((3:Nat)*1) (3:Nat)) (2),(126:UInt8)])] kR
theorem Key_ok (k:Int) (h0:0≤k) (h1:k≤1073741824):Pur Tryz.prog G 19 [.c (.int .i64 k)] [.c (.str (keyT k))]:=by
 refine zp Tryz.func19 ?_
 have c1:=keyText_ok (G:=G) k h0 h1
 have c2:=N_ok (G:=G) k
 refine z0 [(1,{cs:=[(1,pc c2),(2,pc c1)]})] [] ?_
 exact zr
def sgFrom:List UInt8→UInt8→Nat→Int
 | [],_,_ => -1
 | x::r,c,n=>if x=c then (n:Int) else sgFrom r c (n+1)
def sgI (c:UInt8):Int:=sgFrom sgs c 0
theorem sgs_len:sgs.length=64:=rfl
theorem sgI_lib (c:UInt8):Lib.indexByte sgs c=sgI c:=eq_of_beq (byte_all (fun c=>Lib.indexByte sgs c==sgI c) kR c)
theorem sgI_rng (c:UInt8):sgI c = -1∨(0≤sgI c∧sgI c<64∧sgs.getD (sgI c).toNat 0=c):=by
 have:=byte_all (fun c=>(sgI c == -1)||(decide (0≤sgI c)&&decide (sgI c<64)&&(sgs.getD (sgI c).toNat 0==c))) kR c
 simp only [Bool.or_eq_true,beq_iff_eq,Bool.and_eq_true,decide_eq_true_eq] at this
 rcases this with h | ⟨⟨h1,h2⟩,h3⟩
 ·exact .inl h
 ·exact .inr ⟨h1,h2,h3⟩
theorem sgI_at:∀ n,n<64→sgI (sgs.getD n 0)=(n:Int):=by
 have:∀ n∈List.range 64,sgI (sgs.getD n 0)=(n:Int):=by
  have h:(List.range 64).all (fun n=>sgI (sgs.getD n 0)==(n:Int))=true:=kR
  intro n hn
  exact eq_of_beq (List.all_eq_true.1 h n hn)
 exact fun n hn=>this n (List.mem_range.2 hn)
theorem sgs_drop (k:Nat) (h:k<64) (c:UInt8):sgFrom (sgs.drop k) c k=if sgs.getD k 0=c then (k:Int) else sgFrom (sgs.drop (k+1)) c (k+1):=by
 rw [dropS sgs k (by rw [sgs_len];exact h)];rfl
theorem sign8_ok (c:UInt8):Pur Tryz.prog G 124 [.c (.int .u8 (c.toNat:Int))] [.c (.int .i64 (sgI c))]:=by
 refine zp Tryz.func124 ?_
 refine z0 [] [] ?_
 refine zl (fun (k:Nat)=>⟨[(0,.v (.c (.int .u8 (↑c.toNat:Int)))),(3,.v (.c (.int .i64 (k:Int))))],[],32⟩) (fun k=>k≤64∧sgI c=sgFrom (sgs.drop k) c k) (fun k=>64-k) 0 ⟨Nat.zero_le _,rfl⟩ ?_
 intro k L ⟨hk,hq⟩ again
 rcases Nat.lt_or_ge k 64 with hlt | hge
 ·rw [sgs_drop k hlt] at hq
  have e1:EqvD (.c (.int .u8 (([65,66,67,68,69,70,71,72,73,74,75,76,77,78,79,80,81,82,83,84,85,86,87,88,89,90,97,98,99,100,101,102,103,104,105,106,107,108,109,110,111,112,113,114,115,116,117,118,119,120,121,122,48,49,50,51,52,53,54,55,56,57,45,95]:List UInt8).getD ((k:Int).toNat) 0).toNat)) (.c (.int .u8 ((sgs.getD k 0).toNat:Int))):=fun _ _ _ h=>h
  have ht0:decide ((k:Int)<64)=true:=by simp;omega
  by_cases hc:sgs.getD k 0=c
  ·rw [if_pos hc] at hq
   have ht:(((sgs.getD k 0).toNat:Int)==(c.toNat:Int))=true:=by rw [hc];simp
   rw [hq]
   clear hc
   refine zg [(4,{fm:=[(1,.c (.int .u8 ((sgs.getD k 0).toNat:Int)))]})] [true,true] [decide ((k:Int)<64)=true,EqvI (.c (.int .u8 (↑([(65:UInt8),66,67,68,69,70,71,72,73,74,75,76,77,78,79,80,81,82,83,84,85,86,87,88,89,90,97,98,99,100,101,102,103,104,105,106,107,108,109,110,111,112,113,114,115,116,117,118,119,120,121,122,48,49,50,51,52,53,54,55,56,57,45,95].getD k (0:UInt8)).toNat:Int))) (.c (.int .u8 (↑(sgs.getD k (0:UInt8)).toNat:Int))),EqvD (.c (.int .u8 (↑([(65:UInt8),66,67,68,69,70,71,72,73,74,75,76,77,78,79,80,81,82,83,84,85,86,87,88,89,90,97,98,99,100,101,102,103,104,105,106,107,108,109,110,111,112,113,114,115,116,117,118,119,120,121,122,48,49,50,51,52,53,54,55,56,57,45,95].getD k (0:UInt8)).toNat:Int))) (.c (.int .u8 (↑(sgs.getD k (0:UInt8)).toNat:Int))),(0:Int)≤(k:Int)∧(k:Int)<(↑(64:Nat):Int),((↑(sgs.getD k (0:UInt8)).toNat:Int)==(c.toNat:Int))=true] ⟨aS,fun _ _=>trivial,aS,oM,(show ((↑(sgs.getD k (0:UInt8)).toNat:Int)==(↑c.toNat:Int))=true from aS)⟩ ?_
   exact zr
  ·rw [if_neg hc] at hq
   have ht:(((sgs.getD k 0).toNat:Int)==(c.toNat:Int))=false:=by
    rw [beq_eq_false_iff_ne];intro h;exact hc (UInt8.toNat_inj.1 oM)
   clear hc
   refine zg [(4,{fm:=[(1,.c (.int .u8 ((sgs.getD k 0).toNat:Int)))]})] [true,false] [decide ((k:Int)<64)=true,EqvI (.c (.int .u8 (↑([(65:UInt8),66,67,68,69,70,71,72,73,74,75,76,77,78,79,80,81,82,83,84,85,86,87,88,89,90,97,98,99,100,101,102,103,104,105,106,107,108,109,110,111,112,113,114,115,116,117,118,119,120,121,122,48,49,50,51,52,53,54,55,56,57,45,95].getD k (0:UInt8)).toNat:Int))) (.c (.int .u8 (↑(sgs.getD k (0:UInt8)).toNat:Int))),EqvD (.c (.int .u8 (↑([(65:UInt8),66,67,68,69,70,71,72,73,74,75,76,77,78,79,80,81,82,83,84,85,86,87,88,89,90,97,98,99,100,101,102,103,104,105,106,107,108,109,110,111,112,113,114,115,116,117,118,119,120,121,122,48,49,50,51,52,53,54,55,56,57,45,95].getD k (0:UInt8)).toNat:Int))) (.c (.int .u8 (↑(sgs.getD k (0:UInt8)).toNat:Int))),(0:Int)≤(k:Int)∧(k:Int)<(↑(64:Nat):Int),((↑(sgs.getD k (0:UInt8)).toNat:Int)==(c.toNat:Int))=false,inR .i64 ((k:Int)+1)] ⟨aS,fun _ _=>trivial,aS,oM,aS,i6⟩ ?_
   exact za [] (again _ (k+1) oM oM)
 ·obtain rfl:k=64:=by omega
  have hq:sgI c = -1:=hq
  rw [hq]
  refine zg [] [false] [decide ((↑(64:Nat):Int)<(64:Int))=false] rfl ?_
  exact zr
def b8 (x:Int) (k:Nat):UInt8:=UInt8.ofNat (x / 2^k).toNat
def rd8:List UInt8→Int→Nat→List UInt8→Option (List UInt8)
 | [],_,_,out=>some out
 | c::r,v,bits,out=>if sgI c<0 then none else if bits<2 then rd8 r (v*64+sgI c) (bits+6) out
   else rd8 r ((v*64+sgI c)%2^(bits-2)) (bits-2) (out++[b8 (v*64+sgI c) (bits-2)])
def dec8 (s:List UInt8):Option (List UInt8):=match rd8 s 0 0 [] with
 | none=>none
 | some o=>if enc8 o=s then some o else none
def slB (b:List UInt8):Cell:=match b with
 | [] => .nilsl
 | _::_ => .sl 1 b.length (bytesF b)
theorem slB_cons {b:List UInt8} (h:0<b.length):slB b = .sl 1 b.length (bytesF b):=by
 cases b with
 | nil=>simp at h
 | cons=>rfl
def decR (s:List UInt8):List V1:=match dec8 s with
 | none=>[.c .nilsl,.c (.int .i64 3)]
 | some o=>[.c (slB o),.c (.int .i64 0)]
def pow2 (m:Nat):Int:=2^m
theorem pow2_rng (m:Nat) (h:m≤6):1≤pow2 m∧pow2 m≤64:=by
 have:m=0∨m=1∨m=2∨m=3∨m=4∨m=5∨m=6:=by omega
 rcases this with rfl | rfl | rfl | rfl | rfl | rfl | rfl<;>decide
theorem shl_is (m:Nat) (h:m≤4):IntKind.i64.wrap (1*2^(min ((m:Int)).toNat IntKind.i64.bits))=pow2 m:=by
 have:m=0∨m=1∨m=2∨m=3∨m=4:=by omega
 rcases this with rfl | rfl | rfl | rfl | rfl<;>rfl
theorem and_is (x:Int) (m:Nat) (hx:0≤x∧x<2^62) (h:m≤4):bitsI .and .i64 x (pow2 m-1)=x%pow2 m:=by
 obtain ⟨n,rfl⟩:=Int.eq_ofNat_of_zero_le hx.1
 have gen:∀ k:Nat,k≤4→(BitVec.ofInt 64 (pow2 k-1)).toNat=2^k-1:=by
  intro k hk
  have:k=0∨k=1∨k=2∨k=3∨k=4:=by omega
  rcases this with rfl | rfl | rfl | rfl | rfl<;>rfl
 have e:(BitVec.ofInt 64 (n:Int) &&& BitVec.ofInt 64 (pow2 m-1)).toNat=n%2^m:=by
  rw [BitVec.toNat_and,gen m h,Nat.and_two_pow_sub_one_eq_mod]
  have e1:(BitVec.ofInt 64 (n:Int)).toNat=n:=by rw [BitVec.toNat_ofInt];omega
  rw [e1]
 show IntKind.i64.wrap ((BitVec.ofInt 64 (n:Int) &&& BitVec.ofInt 64 (pow2 m-1)).toNat)=_
 rw [e]
 have hlt:n%2^m<64:=Nat.lt_of_lt_of_le (Nat.mod_lt _ (Nat.two_pow_pos m)) (by
  have:=Nat.pow_le_pow_right (show 0<2 by omega) h;omega)
 rw [wrap64 oM oM]
 show ((n%2^m:Nat):Int)=(n:Int)%(2^m:Int)
 rw [Int.natCast_emod,Int.natCast_pow];rfl
theorem byte_is (x:Int) (m:Nat) (h0:0≤x) (h1:x<256*pow2 m) (hm:m≤4):IntKind.u8.wrap (x.fdiv (2^(min ((m:Int)).toNat IntKind.i64.bits)))=((b8 x m).toNat:Int):=by
 have e:min ((m:Int)).toNat IntKind.i64.bits=m:=by show min _ 64=_;omega
 have hp:=(pow2_rng m oM).1
 rw [e,show (2:Int)^m=pow2 m from rfl,Int.fdiv_eq_ediv_of_nonneg _ oM]
 have hd0:0≤x / pow2 m:=Int.ediv_nonneg h0 oM
 have hd1:x / pow2 m<256:=Int.ediv_lt_of_lt_mul oM h1
 have:IntKind.u8.wrap (x / pow2 m)=x / pow2 m:=by simp [IntKind.wrap,IntKind.bits,IntKind.signed];omega
 rw [this,b8,show (2:Int)^m=pow2 m from rfl]
 obtain ⟨y,hy⟩:=Int.eq_ofNat_of_zero_le hd0
 rw [hy] at hd1 ⊢
 simp
 omega
def decInv (s:List UInt8):Nat×Int×Nat×Option (Nat×List UInt8)→St
 | (k,v,bits,none)=>⟨[(0,.v (.c (.str s))),(4,.v (.c .nilsl)),(5,.v (.c (.int .i64 v))),(6,.v (.c (.int .i64 (bits:Int)))),(7,.v (.c (.int .i64 (k:Int))))],[],96⟩
 | (k,v,bits,some (n,l))=>⟨[(0,.v (.c (.str s))),(4,.v (.c (.row 1 40 0 n))),(5,.v (.c (.int .i64 v))),(6,.v (.c (.int .i64 (bits:Int)))),(7,.v (.c (.int .i64 (k:Int))))],[(40,.row 5 1 n (bytesF l))],96⟩
def decF (s:List UInt8):Nat×Int×Nat×Option (Nat×List UInt8)→Prop
 | (k,v,bits,none)=>k≤s.length∧((k=0∧bits=0)∨(k=1∧bits=6))∧0≤v∧v<pow2 bits∧rd8 s 0 0 []=rd8 (s.drop k) v bits []
 | (k,v,bits,some (n,l))=>k≤s.length∧(bits=0∨bits=2∨bits=4∨bits=6)∧0≤v∧v<pow2 bits∧n=l.length∧0<n∧n≤k∧rd8 s 0 0 []=rd8 (s.drop k) v bits l
theorem rd8_bad {c:UInt8} {r:List UInt8} {v:Int} {bits:Nat} {out:List UInt8} (h:sgI c<0):rd8 (c::r) v bits out=none:=by rw [rd8,if_pos h]
theorem rd8_low {c:UInt8} {r:List UInt8} {v:Int} {bits:Nat} {out:List UInt8} (h:0≤sgI c) (hb:bits<2):rd8 (c::r) v bits out=rd8 r (v*64+sgI c) (bits+6) out:=by rw [rd8,if_neg oM,if_pos hb]
theorem rd8_high {c:UInt8} {r:List UInt8} {v:Int} {m:Nat} {out:List UInt8} (h:0≤sgI c):rd8 (c::r) v (m+2) out=rd8 r ((v*64+sgI c)%pow2 m) m (out++[b8 (v*64+sgI c) m]):=by rw [rd8,if_neg oM,if_neg oM];rfl
theorem dec8_none {s:List UInt8} (h:rd8 s 0 0 []=none):decR s=[.c .nilsl,.c (.int .i64 3)]:=by unfold decR dec8;rw [h]
theorem dec8_some {s o:List UInt8} (h:rd8 s 0 0 []=some o) (he:enc8 o=s):decR s=[.c (slB o),.c (.int .i64 0)]:=by unfold decR dec8;rw [h];simp only [he,if_true]
theorem dec8_not {s o:List UInt8} (h:rd8 s 0 0 []=some o) (he:enc8 o≠s):decR s=[.c .nilsl,.c (.int .i64 3)]:=by unfold decR dec8;rw [h];simp only [if_neg he]
theorem pow2_two (m:Nat):pow2 (m+2)=4*pow2 m:=by
 unfold pow2;rw [show m+2=(m+1)+1 from rfl,Int.pow_succ,Int.pow_succ];omega
theorem emod_rng (x:Int) (m:Nat) (hm:m≤4):0≤x%pow2 m∧x%pow2 m<pow2 m:=by
 have:=(pow2_rng m oM).1
 exact ⟨Int.emod_nonneg _ oM,Int.emod_lt_of_pos _ oM⟩
theorem nil_sl {f:Nat→Nat→Cell}:EqvD (.c .nilsl) (.c (.sl 1 0 f)):=fun D ρ u h=>⟨none,0,h,Nat.le_refl _,Nat.zero_le _,.inl ⟨rfl,rfl⟩⟩
theorem dec8_ok (s:List UInt8) (hl:s.length≤30000000000000):Pur Tryz.prog G 107 [.c (.str s)] (decR s):=by
 refine zp Tryz.func107 ?_
 refine z0 [] [] ?_
 refine zl (decInv s) (decF s) (fun x=>s.length-x.1) (0,0,0,none) ⟨Nat.zero_le _,.inl ⟨rfl,rfl⟩,Int.le_refl 0,Int.zero_lt_one,rfl⟩ ?_
 rintro ⟨k,v,bits,_ | ⟨n,l⟩⟩ L hf again
 ·obtain ⟨hk,hb,hv0,hv1,hq⟩:=hf
  rcases Nat.lt_or_ge k s.length with hlt | hge
  ·rw [dropS s k hlt] at hq
   have ht0:decide ((k:Int)<(s.length:Int))=true:=by simp;omega
   have c1:=sign8_ok (G:=G) (s.getD k 0)
   rcases sgI_rng (s.getD k 0) with hs | ⟨hs0,hs1,_⟩
   ·rw [dec8_none (hq.trans (rd8_bad oM))]
    have ht1:decide (sgI (s.getD k 0)<0)=true:=by rw [hs];rfl
    clear hq hb
    refine zg [(6,{cs:=[(3,pc c1)]})] [true,true] [decide ((k:Int)<(s.length:Int))=true,(0:Int)≤(k:Int)∧(k:Int)<(s.length:Int),decide (sgI (s.getD k (0:UInt8))<(0:Int))=true] ⟨aS,oM,(show decide (sgI (s.getD k (0:UInt8))<(0:Int))=true from aS)⟩ ?_
    exact zr
   ·have ht1:decide (sgI (s.getD k 0)<0)=false:=decide_eq_false oM
    rcases hb with ⟨rfl,rfl⟩ | ⟨rfl,rfl⟩
    ·rw [rd8_low hs0 dC] at hq
     have hv1:v<1:=hv1
     have hnx:decF s (0+1,v*64+sgI (s.getD 0 0),6,none):=⟨by omega,.inr ⟨rfl,rfl⟩,by omega,by show _<(64:Int);omega,hq⟩
     have ht2:decide ((((0:Nat):Int)+6)≥8)=false:=rfl
     clear hq
     refine zg [(6,{cs:=[(3,pc c1)]})] [true,false,false] [decide ((↑(0:Nat):Int)<(s.length:Int))=true,(0:Int)≤(↑(0:Nat):Int)∧(↑(0:Nat):Int)<(s.length:Int),decide (sgI (s.getD (0:Nat) (0:UInt8))<(0:Int))=false,inR .i64 (v*64),inR .i64 (v*(64:Int)+sgI (s.getD (0:Nat) (0:UInt8))),inR .i64 ((↑(0:Nat):Int)+(6:Int)),decide ((↑(0:Nat):Int)+(6:Int)≥(8:Int))=false,inR .i64 ((↑(0:Nat):Int)+(1:Int))] ⟨aS,oM,aS,i6,i6,i6,rfl,i6⟩ ?_
     exact za [] (again _ (0+1,v*64+sgI (s.getD 0 0),6,none) aS oM)
    ·have hq:=hq.trans (rd8_high (m:=4) hs0)
     have hv1:v<64:=hv1
     have hr:=emod_rng (v*64+sgI (s.getD 1 0)) 4 dC
     have hp4:pow2 4=16:=rfl
     have hnx:decF s (1+1,(v*64+sgI (s.getD 1 0))%pow2 4,4,some (1,[b8 (v*64+sgI (s.getD 1 0)) 4])):=⟨by omega,.inr (.inr (.inl rfl)),hr.1,hr.2,rfl,by decide,by decide,hq⟩
     have ht2:decide ((((6:Nat):Int)+6)≥8)=true:=rfl
     have e1:EqvD (.c (.int .u8 (IntKind.u8.wrap ((v*64+sgI (s.getD 1 0)).fdiv (2^4))))) (.c (.int .u8 ((b8 (v*64+sgI (s.getD 1 0)) 4).toNat:Int))):=eqvD_of (by rw [← byte_is _ 4 oM (show _<256*(16:Int) by omega) dC];rfl)
     have e2:=row_new ((b8 (v*64+sgI (s.getD 1 0)) 4).toNat:Int) (b8 (v*64+sgI (s.getD 1 0)) 4) rfl
     have e3:EqvD (.c (.int .i64 (bitsI .and .i64 (v*64+sgI (s.getD 1 0)) (pow2 4-1)))) (.c (.int .i64 ((v*64+sgI (s.getD 1 0))%pow2 4))):=eqvD_of (by rw [and_is _ 4 oM dC])
     clear hq hr
     refine zg [(12,{fm:=[(4,.c (.int .u8 ((b8 (v*64+sgI (s.getD 1 0)) 4).toNat:Int)))],bs:=[(6,.row 5 1 1 (bytesF [b8 (v*64+sgI (s.getD 1 0)) 4]))]}),(13,{fm:=[(2,.c (.int .i64 (pow2 4))),(4,.c (.int .i64 ((v*64+sgI (s.getD 1 0))%pow2 4)))]}),(6,{cs:=[(3,pc c1)]})] [true,false,true] [decide ((↑(1:Nat):Int)<(s.length:Int))=true,(0:Int)≤(↑(1:Nat):Int)∧(↑(1:Nat):Int)<(s.length:Int),decide (sgI (s.getD (1:Nat) (0:UInt8))<(0:Int))=false,inR .i64 (v*64),inR .i64 (v*(64:Int)+sgI (s.getD (1:Nat) (0:UInt8))),inR .i64 ((↑(6:Nat):Int)+(6:Int)),decide ((↑(6:Nat):Int)+(6:Int)≥(8:Int))=true,inR .i64 ((↑(6:Nat):Int)+(6:Int)-(8:Int)),(0:Int)≤(↑(6:Nat):Int)+(6:Int)-(8:Int),EqvI (.c (.int .u8 (IntKind.u8.wrap ((v*(64:Int)+sgI (s.getD (1:Nat) (0:UInt8))).fdiv ((2:Int)^(4:Nat)))))) (.c (.int .u8 (↑(b8 (v*(64:Int)+sgI (s.getD (1:Nat) (0:UInt8))) (4:Nat)).toNat:Int))),EqvD (.c (.int .u8 (IntKind.u8.wrap ((v*(64:Int)+sgI (s.getD (1:Nat) (0:UInt8))).fdiv ((2:Int)^(4:Nat)))))) (.c (.int .u8 (↑(b8 (v*(64:Int)+sgI (s.getD (1:Nat) (0:UInt8))) (4:Nat)).toNat:Int))),1≤140737488355328,BlkEqv (.row 5 (1:Nat) (1:Nat) (catF (0:Nat) (fun (x x_1:Nat) => .nilif) fun i j=>nthD [.int .u8 (↑(b8 (v*(64:Int)+sgI (s.getD (1:Nat) (0:UInt8))) (4:Nat)).toNat:Int)] (((0:Nat)+i)*(1:Nat)+j))) (.row 5 (1:Nat) (1:Nat) (bytesF [b8 (v*(64:Int)+sgI (s.getD (1:Nat) (0:UInt8))) (4:Nat)])),0+1≤1,EqvI (.c (.int .i64 (IntKind.i64.wrap ((1:Int)*(2:Int)^(4:Nat))))) (.c (.int .i64 (pow2 (4:Nat)))),EqvD (.c (.int .i64 (IntKind.i64.wrap ((1:Int)*(2:Int)^(4:Nat))))) (.c (.int .i64 (pow2 (4:Nat)))),(0:Int)≤(↑(6:Nat):Int)+(6:Int)-(8:Int),inR .i64 (pow2 (4:Nat)-(1:Int)),EqvI (.c (.int .i64 (bitsI BinOp.and .i64 (v*(64:Int)+sgI (s.getD (1:Nat) (0:UInt8))) (pow2 (4:Nat)-(1:Int))))) (.c (.int .i64 ((v*(64:Int)+sgI (s.getD (1:Nat) (0:UInt8)))%pow2 (4:Nat)))),EqvD (.c (.int .i64 (bitsI BinOp.and .i64 (v*(64:Int)+sgI (s.getD (1:Nat) (0:UInt8))) (pow2 (4:Nat)-(1:Int))))) (.c (.int .i64 ((v*(64:Int)+sgI (s.getD (1:Nat) (0:UInt8)))%pow2 (4:Nat)))),inR .i64 ((↑(1:Nat):Int)+(1:Int))] ⟨aS,oM,aS,i6,i6,i6,rfl,i6,oM,fun _ _=>trivial,aS,oM,aS,oM,fun _ _=>trivial,fun _ _ _ h=>h,oM,i6,fun _ _=>trivial,aS,i6⟩ ?_
     exact za [(40,576)] (again _ (1+1,(v*64+sgI (s.getD 1 0))%pow2 4,4,some (1,[b8 (v*64+sgI (s.getD 1 0)) 4])) aS oM)
  ·have ht0:decide ((k:Int)<(s.length:Int))=false:=by simp;omega
   have hk:s.length=k:=by omega
   rw [← hk,List.drop_length] at hq
   have c2:Pur Tryz.prog G 63 [.c (.sl 1 0 (bytesF []))] [.c (.str [])]:=enc8_ok [] dC
   have e4:=nil_sl (f:=bytesF [])
   by_cases hs:s=[]
   ·rw [dec8_some hq (by rw [hs];rfl)]
    subst hs
    have ht3:(!(([]:List UInt8)==[]))=false:=rfl
    clear hb hv1
    refine zg [(14,{cs:=[(1,pc c2)],fm:=[(0,.c (.sl 1 0 (bytesF [])))]})] [false,false] [decide ((k:Int)<(↑([]:List UInt8).length:Int))=false,EqvI (.c .nilsl) (.c (.sl 1 0 (bytesF []))),EqvD (.c .nilsl) (.c (.sl 1 0 (bytesF []))),(!([]:List UInt8)==[])=false] ⟨rfl,fun _ _=>trivial,aS,rfl⟩ ?_
    exact zr
   ·rw [dec8_not hq (fun h=>hs h.symm)]
    have ht3:(!(([]:List UInt8)==s))=true:=by cases s with | nil=>exact (hs rfl).elim | cons=>rfl
    clear hb hv1
    refine zg [(14,{cs:=[(1,pc c2)],fm:=[(0,.c (.sl 1 0 (bytesF [])))]})] [false,true] [decide ((k:Int)<(s.length:Int))=false,EqvI (.c .nilsl) (.c (.sl 1 0 (bytesF []))),EqvD (.c .nilsl) (.c (.sl 1 0 (bytesF []))),(![]==s)=true] ⟨aS,fun _ _=>trivial,aS,(show (![]==s)=true from aS)⟩ ?_
    exact zr
 ·obtain ⟨hk,hb,hv0,hv1,hn,hn0,hnk,hq⟩:=hf
  rcases Nat.lt_or_ge k s.length with hlt | hge
  ·rw [dropS s k hlt] at hq
   have ht0:decide ((k:Int)<(s.length:Int))=true:=by simp;omega
   have c1:=sign8_ok (G:=G) (s.getD k 0)
   rcases sgI_rng (s.getD k 0) with hs | ⟨hs0,hs1,_⟩
   ·rw [dec8_none (hq.trans (rd8_bad oM))]
    have ht1:decide (sgI (s.getD k 0)<0)=true:=by rw [hs];rfl
    clear hq hb
    refine zg [(6,{cs:=[(3,pc c1)]})] [true,true] [decide ((k:Int)<(s.length:Int))=true,(0:Int)≤(k:Int)∧(k:Int)<(s.length:Int),decide (sgI (s.getD k (0:UInt8))<(0:Int))=true] ⟨aS,oM,(show decide (sgI (s.getD k (0:UInt8))<(0:Int))=true from aS)⟩ ?_
    exact zr
   ·have ht1:decide (sgI (s.getD k 0)<0)=false:=decide_eq_false oM
    by_cases hb0:bits=0
    ·subst hb0
     rw [rd8_low hs0 dC] at hq
     have hv1:v<1:=hv1
     have hnx:decF s (k+1,v*64+sgI (s.getD k 0),6,some (n,l)):=⟨by omega,.inr (.inr (.inr rfl)),by omega,by show _<(64:Int);omega,hn,hn0,by omega,hq⟩
     have ht2:decide ((((0:Nat):Int)+6)≥8)=false:=rfl
     clear hq
     refine zg [(6,{cs:=[(3,pc c1)]})] [true,false,false] [decide ((k:Int)<(s.length:Int))=true,(0:Int)≤(k:Int)∧(k:Int)<(s.length:Int),decide (sgI (s.getD k (0:UInt8))<(0:Int))=false,inR .i64 (v*64),inR .i64 (v*64+sgI (s.getD k (0:UInt8))),inR .i64 ((↑(0:Nat):Int)+(6:Int)),decide ((↑(0:Nat):Int)+(6:Int)≥(8:Int))=false,inR .i64 ((k:Int)+1)] ⟨aS,oM,aS,i6,i6,i6,rfl,i6⟩ ?_
     exact za [] (again _ (k+1,v*64+sgI (s.getD k 0),6,some (n,l)) aS oM)
    ·obtain ⟨m,rfl⟩:∃ m,bits=m+2:=⟨bits-2,by omega⟩
     have hm:m≤4:=by omega
     have hq:=hq.trans (rd8_high (m:=m) hs0)
     rw [pow2_two] at hv1
     have hr:=emod_rng (v*64+sgI (s.getD k 0)) m hm
     have hp:=pow2_rng m oM
     have hlo:0≤v*64+sgI (s.getD k 0):=by omega
     have hhi:v*64+sgI (s.getD k 0)<256*pow2 m:=by omega
     have hnx:decF s (k+1,(v*64+sgI (s.getD k 0))%pow2 m,m,some (n+1,l++[b8 (v*64+sgI (s.getD k 0)) m])):=⟨by omega,by omega,hr.1,hr.2,by simp [hn],by omega,by omega,hq⟩
     have ht2:decide ((((m+2:Nat):Int)+6)≥8)=true:=by simp;omega
     have e0:EqvD (.c (.int .i64 (((m+2:Nat):Int)+6-8))) (.c (.int .i64 (m:Int))):=eqvD_of (by rw [show ((m+2:Nat):Int)+6-8=(m:Int) by omega])
     have e1:EqvD (.c (.int .u8 (IntKind.u8.wrap ((v*64+sgI (s.getD k 0)).fdiv (2^(min ((m:Int)).toNat IntKind.i64.bits)))))) (.c (.int .u8 ((b8 (v*64+sgI (s.getD k 0)) m).toNat:Int))):=eqvD_of (by rw [byte_is _ m hlo hhi hm])
     have e2:BlkEqv (.row 5 1 (n+1) (catF n (bytesF l) (fun i j=>nthD [.int .u8 ((b8 (v*64+sgI (s.getD k 0)) m).toNat:Int)] ((0+i)*1+j)))) (.row 5 1 (n+1) (bytesF (l++[b8 (v*64+sgI (s.getD k 0)) m]))):=bytes_app l [b8 (v*64+sgI (s.getD k 0)) m] hn
     have e3:EqvD (.c (.int .i64 (bitsI .and .i64 (v*64+sgI (s.getD k 0)) (pow2 m-1)))) (.c (.int .i64 ((v*64+sgI (s.getD k 0))%pow2 m))):=eqvD_of (by rw [and_is _ m oM hm])
     have e5:EqvD (.c (.int .i64 (IntKind.i64.wrap (1*2^(min ((m:Int)).toNat IntKind.i64.bits))))) (.c (.int .i64 (pow2 m))):=eqvD_of (by rw [shl_is m hm])
     clear hq hr hb hb0
     refine zg [(11,{fm:=[(1,.c (.int .i64 (m:Int)))]}),(12,{fm:=[(4,.c (.int .u8 ((b8 (v*64+sgI (s.getD k 0)) m).toNat:Int)))],bs:=[(6,.row 5 1 (n+1) (bytesF (l++[b8 (v*64+sgI (s.getD k 0)) m])))]}),(13,{fm:=[(2,.c (.int .i64 (pow2 m))),(4,.c (.int .i64 ((v*64+sgI (s.getD k 0))%pow2 m)))]}),(6,{cs:=[(3,pc c1)]})] [true,false,true] [decide ((k:Int)<(s.length:Int))=true,(0:Int)≤(k:Int)∧(k:Int)<(s.length:Int),decide (sgI (s.getD k (0:UInt8))<(0:Int))=false,inR .i64 (v*64),inR .i64 (v*64+sgI (s.getD k (0:UInt8))),inR .i64 ((↑(m+(2:Nat)):Int)+(6:Int)),decide ((↑(m+(2:Nat)):Int)+(6:Int)≥(8:Int))=true,EqvI (.c (.int .i64 ((↑(m+(2:Nat)):Int)+(6:Int)-(8:Int)))) (.c (.int .i64 (m:Int))),EqvD (.c (.int .i64 ((↑(m+(2:Nat)):Int)+(6:Int)-(8:Int)))) (.c (.int .i64 (m:Int))),inR .i64 ((↑(m+(2:Nat)):Int)+(6:Int)-(8:Int)),(0:Int)≤(m:Int),EqvI (.c (.int .u8 (IntKind.u8.wrap ((v*(64:Int)+sgI (s.getD k (0:UInt8))).fdiv ((2:Int)^min m IntKind.i64.bits))))) (.c (.int .u8 (↑(b8 (v*(64:Int)+sgI (s.getD k (0:UInt8))) m).toNat:Int))),EqvD (.c (.int .u8 (IntKind.u8.wrap ((v*(64:Int)+sgI (s.getD k (0:UInt8))).fdiv ((2:Int)^min m IntKind.i64.bits))))) (.c (.int .u8 (↑(b8 (v*(64:Int)+sgI (s.getD k (0:UInt8))) m).toNat:Int))),(n+1)*1≤140737488355328,BlkEqv (.row 5 (1:Nat) (n+(1:Nat)) (catF n (bytesF l) fun i j=>nthD [.int .u8 (↑(b8 (v*(64:Int)+sgI (s.getD k (0:UInt8))) m).toNat:Int)] (((0:Nat)+i)*(1:Nat)+j))) (.row 5 (1:Nat) (n+(1:Nat)) (bytesF (l++[b8 (v*(64:Int)+sgI (s.getD k (0:UInt8))) m]))),n≤n,0+1≤1,EqvI (.c (.int .i64 (IntKind.i64.wrap ((1:Int)*(2:Int)^min m IntKind.i64.bits)))) (.c (.int .i64 (pow2 m))),EqvD (.c (.int .i64 (IntKind.i64.wrap ((1:Int)*(2:Int)^min m IntKind.i64.bits)))) (.c (.int .i64 (pow2 m))),(0:Int)≤(m:Int),inR .i64 (pow2 m-1),EqvI (.c (.int .i64 (bitsI BinOp.and .i64 (v*(64:Int)+sgI (s.getD k (0:UInt8))) (pow2 m-(1:Int))))) (.c (.int .i64 ((v*(64:Int)+sgI (s.getD k (0:UInt8)))%pow2 m))),EqvD (.c (.int .i64 (bitsI BinOp.and .i64 (v*(64:Int)+sgI (s.getD k (0:UInt8))) (pow2 m-(1:Int))))) (.c (.int .i64 ((v*(64:Int)+sgI (s.getD k (0:UInt8)))%pow2 m))),inR .i64 ((k:Int)+1)] ⟨aS,oM,aS,i6,i6,i6,aS,fun _ _=>trivial,aS,i6,oM,fun _ _=>trivial,aS,oM,aS,oM,oM,fun _ _=>trivial,aS,oM,i6,fun _ _=>trivial,aS,i6⟩ ?_
     exact za [(40,576)] (again _ (k+1,(v*64+sgI (s.getD k 0))%pow2 m,m,some (n+1,l++[b8 (v*64+sgI (s.getD k 0)) m])) aS oM)
  ·have ht0:decide ((k:Int)<(s.length:Int))=false:=by simp;omega
   have hk:s.length=k:=by omega
   rw [← hk,List.drop_length] at hq
   subst hn
   have c2:=enc8_ok (G:=G) l oM
   by_cases hs:enc8 l=s
   ·rw [dec8_some hq hs,slB_cons hn0]
    have ht3:(!(enc8 l==s))=false:=by rw [hs];simp
    clear hb hv1
    refine zg [(14,{cs:=[(1,lc [40] [.row 5 1 l.length (bytesF l)] [.c (.row 1 0 0 l.length)] c2 kR kR kR (show 0+l.length≤l.length from oM))]})] [false,false] [decide ((k:Int)<(s.length:Int))=false,(!enc8 l==s)=false] ⟨aS,(show (!enc8 l==s)=false from aS)⟩ ?_
    refine Wp.ent' kR (Ent.pubT (t:=2) (e:=5) (sz:=(1:Nat)) (id:=40) (off:=(0:Nat)) (m:=l.length) (n:=l.length) (f:=bytesF l) (m':=l.length) (f':=bytesF l) kR kR oM rfl (fun i _ j _=>by rw [Nat.zero_add]) rfl) ?_
    exact zr
   ·rw [dec8_not hq hs]
    have ht3:(!(enc8 l==s))=true:=by simp [hs]
    clear hb hv1
    refine zg [(14,{cs:=[(1,lc [40] [.row 5 1 l.length (bytesF l)] [.c (.row 1 0 0 l.length)] c2 kR kR kR (show 0+l.length≤l.length from oM))]})] [false,true] [decide ((k:Int)<(s.length:Int))=false,(!enc8 l==s)=true] ⟨aS,(show (!enc8 l==s)=true from aS)⟩ ?_
    exact zr
theorem wrap8u {x:Int} (h:0≤x∧x<256):IntKind.u8.wrap x=x:=by simp [IntKind.wrap,IntKind.bits,IntKind.signed];omega
theorem or_is (x y:Int) (k:Nat) (hx:0≤x∧x<256) (hy:0≤y∧y<2^k) (hm:x%2^k=0) (hk:k≤7):bitsI .or .u8 x y=x+y:=by
 obtain ⟨a,rfl⟩:=Int.eq_ofNat_of_zero_le hx.1
 obtain ⟨b,rfl⟩:=Int.eq_ofNat_of_zero_le hy.1
 have hm:a%2^k=0:=by
  have:((a%2^k:Nat):Int)=0:=by rw [Int.natCast_emod,Int.natCast_pow];exact hm
  omega
 have hb:b<2^k:=by
  have:((b:Nat):Int)<((2^k:Nat):Int):=by rw [Int.natCast_pow];exact hy.2
  omega
 have h2k:2^k≤128:=by have:=Nat.pow_le_pow_right (show 0<2 by omega) hk;omega
 have h2:2^k*(a / 2^k)=a:=by have:=Nat.div_add_mod a (2^k);omega
 have hor:a ||| b=a+b:=by
  have:=Nat.two_pow_add_eq_or_of_lt hb (a / 2^k)
  rw [h2] at this;exact this.symm
 have e:(BitVec.ofInt 8 (a:Int) ||| BitVec.ofInt 8 (b:Int)).toNat=a+b:=by
  rw [BitVec.toNat_or,BitVec.toNat_ofInt,BitVec.toNat_ofInt]
  rw [show ((a:Int)%((2^8:Nat):Int)).toNat=a by omega,show ((b:Int)%((2^8:Nat):Int)).toNat=b by omega,hor]
 have hlt:a+b<256:=by
  have e8:a ||| b<2^8:=Nat.or_lt_two_pow oM oM
  rw [hor] at e8;omega
 show IntKind.u8.wrap ((BitVec.ofInt 8 (a:Int) ||| BitVec.ofInt 8 (b:Int)).toNat)=_
 rw [e,wrap8u oM];simp
theorem and63 (x:Int) (hx:0≤x∧x<256):bitsI .and .u8 x 63=x%64:=by
 obtain ⟨n,rfl⟩:=Int.eq_ofNat_of_zero_le hx.1
 have e:(BitVec.ofInt 8 (n:Int) &&& BitVec.ofInt 8 63).toNat=n%64:=by
  rw [BitVec.toNat_and]
  have e1:(BitVec.ofInt 8 (n:Int)).toNat=n:=by rw [BitVec.toNat_ofInt];omega
  have e2:(BitVec.ofInt 8 63).toNat=2^6-1:=rfl
  rw [e1,e2,Nat.and_two_pow_sub_one_eq_mod]
 show IntKind.u8.wrap ((BitVec.ofInt 8 (n:Int) &&& BitVec.ofInt 8 63).toNat)=_
 rw [e,wrap8u oM];simp
theorem fdiv_is (x:Int) (k:Nat) (hx:0≤x):x.fdiv (2^k)=x / 2^k:=Int.fdiv_eq_ediv_of_nonneg _ (Int.le_of_lt (Int.pow_pos dC))
theorem wrap_mod (x:Int):IntKind.u8.wrap x=x%256:=by simp [IntKind.wrap,IntKind.bits,IntKind.signed]
theorem three_ok (a b c d:Int) (ha:0≤a∧a<64) (hb:0≤b∧b<64) (hc:0≤c∧c<64) (hd:0≤d∧d<64):Pur Tryz.prog G 176 [.agg [.int .u8 a,.int .u8 b,.int .u8 c,.int .u8 d]] [.agg [.int .u8 (a*4+b / 16),.int .u8 (b%16*16+c / 4),.int .u8 (c%4*64+d)]]:=by
 refine zp Tryz.func176 ?_
 have e1:EqvD (.c (.int .u8 (IntKind.u8.wrap (a*2^2)))) (.c (.int .u8 (a*4))):=eqvD_of (by rw [wrap_mod];congr 2;omega)
 have e2:EqvD (.c (.int .u8 (b.fdiv (2^4)))) (.c (.int .u8 (b / 16))):=eqvD_of (by rw [fdiv_is b 4 hb.1];rfl)
 have e3:EqvD (.c (.int .u8 (bitsI .or .u8 (a*4) (b / 16)))) (.c (.int .u8 (a*4+b / 16))):=eqvD_of (by rw [or_is _ _ 2 oM (by constructor<;>(show _;first | omega | (have:(2:Int)^2=4:=rfl;omega))) (by have:(2:Int)^2=4:=rfl;omega) dC])
 have e4:EqvD (.c (.int .u8 (IntKind.u8.wrap (b*2^4)))) (.c (.int .u8 (b%16*16))):=eqvD_of (by rw [wrap_mod];congr 2;omega)
 have e5:EqvD (.c (.int .u8 (c.fdiv (2^2)))) (.c (.int .u8 (c / 4))):=eqvD_of (by rw [fdiv_is c 2 hc.1];rfl)
 have e6:EqvD (.c (.int .u8 (bitsI .or .u8 (b%16*16) (c / 4)))) (.c (.int .u8 (b%16*16+c / 4))):=eqvD_of (by rw [or_is _ _ 4 oM (by have:(2:Int)^4=16:=rfl;omega) (by have:(2:Int)^4=16:=rfl;omega) dC])
 have e7:EqvD (.c (.int .u8 (IntKind.u8.wrap (c*2^6)))) (.c (.int .u8 (c%4*64))):=eqvD_of (by rw [wrap_mod];congr 2;omega)
 have e8:EqvD (.c (.int .u8 (bitsI .or .u8 (c%4*64) d))) (.c (.int .u8 (c%4*64+d))):=eqvD_of (by rw [or_is _ _ 6 oM (by have:(2:Int)^6=64:=rfl;omega) (by have:(2:Int)^6=64:=rfl;omega) dC])
 refine zg [(1,{fm:=[(2,.c (.int .u8 (a*4))),(5,.c (.int .u8 (b / 16))),(6,.c (.int .u8 (a*4+b / 16))),(9,.c (.int .u8 (b%16*16))),(12,.c (.int .u8 (c / 4))),(13,.c (.int .u8 (b%16*16+c / 4))),(16,.c (.int .u8 (c%4*64))),(19,.c (.int .u8 (c%4*64+d)))]})] [] [(0:Int)≤(0:Int)∧(0:Int)<(↑(4:Nat):Int),EqvI (.c (.int .u8 (IntKind.u8.wrap (a*(2:Int)^(2:Nat))))) (.c (.int .u8 (a*(4:Int)))),EqvD (.c (.int .u8 (IntKind.u8.wrap (a*(2:Int)^(2:Nat))))) (.c (.int .u8 (a*(4:Int)))),(0:Int)≤(2:Int),(0:Int)≤(1:Int)∧(1:Int)<(↑(4:Nat):Int),EqvI (.c (.int .u8 (b.fdiv ((2:Int)^(4:Nat))))) (.c (.int .u8 (b / (16:Int)))),EqvD (.c (.int .u8 (b.fdiv ((2:Int)^(4:Nat))))) (.c (.int .u8 (b / (16:Int)))),(0:Int)≤(4:Int),EqvI (.c (.int .u8 (bitsI BinOp.or .u8 (a*(4:Int)) (b / (16:Int))))) (.c (.int .u8 (a*(4:Int)+b / (16:Int)))),EqvD (.c (.int .u8 (bitsI BinOp.or .u8 (a*(4:Int)) (b / (16:Int))))) (.c (.int .u8 (a*(4:Int)+b / (16:Int)))),(0:Int)≤(1:Int)∧(1:Int)<(↑(4:Nat):Int),EqvI (.c (.int .u8 (IntKind.u8.wrap (b*(2:Int)^(4:Nat))))) (.c (.int .u8 (b%(16:Int)*(16:Int)))),EqvD (.c (.int .u8 (IntKind.u8.wrap (b*(2:Int)^(4:Nat))))) (.c (.int .u8 (b%(16:Int)*(16:Int)))),(0:Int)≤(4:Int),(0:Int)≤(2:Int)∧(2:Int)<(↑(4:Nat):Int),EqvI (.c (.int .u8 (c.fdiv ((2:Int)^(2:Nat))))) (.c (.int .u8 (c / (4:Int)))),EqvD (.c (.int .u8 (c.fdiv ((2:Int)^(2:Nat))))) (.c (.int .u8 (c / (4:Int)))),(0:Int)≤(2:Int),EqvI (.c (.int .u8 (bitsI BinOp.or .u8 (b%(16:Int)*(16:Int)) (c / (4:Int))))) (.c (.int .u8 (b%(16:Int)*(16:Int)+c / (4:Int)))),EqvD (.c (.int .u8 (bitsI BinOp.or .u8 (b%(16:Int)*(16:Int)) (c / (4:Int))))) (.c (.int .u8 (b%(16:Int)*(16:Int)+c / (4:Int)))),(0:Int)≤(2:Int)∧(2:Int)<(↑(4:Nat):Int),EqvI (.c (.int .u8 (IntKind.u8.wrap (c*(2:Int)^(6:Nat))))) (.c (.int .u8 (c%(4:Int)*(64:Int)))),EqvD (.c (.int .u8 (IntKind.u8.wrap (c*(2:Int)^(6:Nat))))) (.c (.int .u8 (c%(4:Int)*(64:Int)))),(0:Int)≤(6:Int),(0:Int)≤(3:Int)∧(3:Int)<(↑(4:Nat):Int),EqvI (.c (.int .u8 (bitsI BinOp.or .u8 (c%(4:Int)*(64:Int)) d))) (.c (.int .u8 (c%(4:Int)*(64:Int)+d))),EqvD (.c (.int .u8 (bitsI BinOp.or .u8 (c%(4:Int)*(64:Int)) d))) (.c (.int .u8 (c%(4:Int)*(64:Int)+d)))] ⟨oM,fun _ _=>trivial,aS,oM,oM,fun _ _=>trivial,aS,oM,fun _ _=>trivial,aS,oM,fun _ _=>trivial,aS,oM,oM,fun _ _=>trivial,aS,oM,fun _ _=>trivial,aS,oM,fun _ _=>trivial,aS,oM,oM,fun _ _=>trivial,(show EqvD (.c (.int .u8 (bitsI BinOp.or .u8 (c%(4:Int)*(64:Int)) d))) (.c (.int .u8 (c%(4:Int)*(64:Int)+d))) from aS)⟩ ?_
 exact zr
def by3 (b:List UInt8) (j:Nat):Int:=((b.getD j 0).toNat:Int)
theorem by3_rng (b:List UInt8) (j:Nat):0≤by3 b j∧by3 b j<256:=by have:=UInt8.toNat_lt (b.getD j 0);unfold by3;omega
theorem blkEqv_of {b b':Blk} (h:b=b'):BlkEqv b b':=by subst h;exact ⟨fun _ _ _ _ h=>h,fun _ h=>h⟩
theorem cpy3 (e:TypeId) (b:List UInt8) (hb:b.length≤3):BlkEqv (.box e (cpyL 0 b.length (bytesF b) [.int .u8 0,.int .u8 0,.int .u8 0])) (.box e [.int .u8 (by3 b 0),.int .u8 (by3 b 1),.int .u8 (by3 b 2)]):=by
 refine blkEqv_of ?_
 match b,hb with
 | [],_=>rfl
 | [_],_=>rfl
 | [_,_],_=>rfl
 | [_,_,_],_=>rfl
 | _::_::_::_::_,h=>exact absurd h (by simp)
theorem four_ok (b:List UInt8) (hb:b.length≤3):Pur Tryz.prog G 146 [.c (.sl 1 b.length (bytesF b))] [.agg [.int .u8 (by3 b 0 / 4),.int .u8 (by3 b 0%4*16+by3 b 1 / 16),.int .u8 (by3 b 1%16*4+by3 b 2 / 64),.int .u8 (by3 b 2%64)]]:=by
 refine zp Tryz.func146 ?_
 have r0:=by3_rng b 0
 have r1:=by3_rng b 1
 have r2:=by3_rng b 2
 have hfl:∀ k,k<b.length→(bytesF b k 0).flat=true:=fun _ _=>rfl
 have hcp:=cpy3 182 b hb
 have e1:EqvD (.c (.int .u8 ((by3 b 0).fdiv (2^2)))) (.c (.int .u8 (by3 b 0 / 4))):=eqvD_of (by rw [fdiv_is _ 2 r0.1];rfl)
 have e2:EqvD (.c (.int .u8 (IntKind.u8.wrap (by3 b 0*2^4)))) (.c (.int .u8 (by3 b 0%16*16))):=eqvD_of (by rw [wrap_mod];congr 2;omega)
 have e3:EqvD (.c (.int .u8 (bitsI .and .u8 (by3 b 0%16*16) 63))) (.c (.int .u8 (by3 b 0%4*16))):=eqvD_of (by rw [and63 _ oM];congr 2;omega)
 have e4:EqvD (.c (.int .u8 ((by3 b 1).fdiv (2^4)))) (.c (.int .u8 (by3 b 1 / 16))):=eqvD_of (by rw [fdiv_is _ 4 r1.1];rfl)
 have e5:EqvD (.c (.int .u8 (bitsI .or .u8 (by3 b 0%4*16) (by3 b 1 / 16)))) (.c (.int .u8 (by3 b 0%4*16+by3 b 1 / 16))):=eqvD_of (by rw [or_is _ _ 4 oM (by have:(2:Int)^4=16:=rfl;omega) (by have:(2:Int)^4=16:=rfl;omega) dC])
 have e6:EqvD (.c (.int .u8 (IntKind.u8.wrap (by3 b 1*2^2)))) (.c (.int .u8 (by3 b 1%64*4))):=eqvD_of (by rw [wrap_mod];congr 2;omega)
 have e7:EqvD (.c (.int .u8 (bitsI .and .u8 (by3 b 1%64*4) 63))) (.c (.int .u8 (by3 b 1%16*4))):=eqvD_of (by rw [and63 _ oM];congr 2;omega)
 have e8:EqvD (.c (.int .u8 ((by3 b 2).fdiv (2^6)))) (.c (.int .u8 (by3 b 2 / 64))):=eqvD_of (by rw [fdiv_is _ 6 r2.1];rfl)
 have e9:EqvD (.c (.int .u8 (bitsI .or .u8 (by3 b 1%16*4) (by3 b 2 / 64)))) (.c (.int .u8 (by3 b 1%16*4+by3 b 2 / 64))):=eqvD_of (by rw [or_is _ _ 2 oM (by have:(2:Int)^2=4:=rfl;omega) (by have:(2:Int)^2=4:=rfl;omega) dC])
 have e10:EqvD (.c (.int .u8 (bitsI .and .u8 (by3 b 2) 63))) (.c (.int .u8 (by3 b 2%64))):=eqvD_of (by rw [and63 _ r2])
 refine zg [(2,{bs:=[(2,.box 182 [.int .u8 (by3 b 0),.int .u8 (by3 b 1),.int .u8 (by3 b 2)])]}),(3,{fm:=[(2,.c (.int .u8 (by3 b 0 / 4))),(5,.c (.int .u8 (by3 b 0%16*16))),(6,.c (.int .u8 (by3 b 0%4*16))),(9,.c (.int .u8 (by3 b 1 / 16))),(10,.c (.int .u8 (by3 b 0%4*16+by3 b 1 / 16))),(13,.c (.int .u8 (by3 b 1%64*4))),(14,.c (.int .u8 (by3 b 1%16*4))),(17,.c (.int .u8 (by3 b 2 / 64))),(18,.c (.int .u8 (by3 b 1%16*4+by3 b 2 / 64))),(21,.c (.int .u8 (by3 b 2%64)))]})] [] [(0:Int)≤Int.ofNat (0)∧Int.ofNat (0)≤Int.ofNat (3:Nat)∧Int.ofNat (3:Nat)≤(↑(3:Nat):Int),b.length≤3,3≤3,∀ (k:Nat),k<b.length→true=true,BlkEqv (.box 182 [if 0<0 then nthD [.int .u8 0,.int .u8 0,.int .u8 0] 0 else if 0<0+b.length then bytesF b 0 0 else nthD [.int .u8 0,.int .u8 0,.int .u8 0] 0,if 0+1<0 then nthD [.int .u8 0,.int .u8 0,.int .u8 0] (0+1) else if 0+1<0+b.length then bytesF b 1 0 else nthD [.int .u8 0,.int .u8 0,.int .u8 0] (0+1),if 0+1+1<0 then nthD [.int .u8 0,.int .u8 0,.int .u8 0] (0+1+1) else if 0+1+1<0+b.length then bytesF b 2 0 else nthD [.int .u8 0,.int .u8 0,.int .u8 0] (0+1+1)]) (.box 182 [.int .u8 (by3 b 0),.int .u8 (by3 b 1),.int .u8 (by3 b 2)]),(0:Int)≤(0:Int)∧(0:Int)<(↑(3:Nat):Int),EqvI (.c (.int .u8 ((by3 b (0:Nat)).fdiv ((2:Int)^(2:Nat))))) (.c (.int .u8 (by3 b (0:Nat) / (4:Int)))),EqvD (.c (.int .u8 ((by3 b (0:Nat)).fdiv ((2:Int)^(2:Nat))))) (.c (.int .u8 (by3 b (0:Nat) / (4:Int)))),(0:Int)≤(2:Int),(0:Int)≤(0:Int)∧(0:Int)<(↑(3:Nat):Int),EqvI (.c (.int .u8 (IntKind.u8.wrap (by3 b (0:Nat)*(2:Int)^(4:Nat))))) (.c (.int .u8 (by3 b (0:Nat)%(16:Int)*(16:Int)))),EqvD (.c (.int .u8 (IntKind.u8.wrap (by3 b (0:Nat)*(2:Int)^(4:Nat))))) (.c (.int .u8 (by3 b (0:Nat)%(16:Int)*(16:Int)))),(0:Int)≤(4:Int),EqvI (.c (.int .u8 (bitsI BinOp.and .u8 (by3 b (0:Nat)%(16:Int)*(16:Int)) (63:Int)))) (.c (.int .u8 (by3 b (0:Nat)%(4:Int)*(16:Int)))),EqvD (.c (.int .u8 (bitsI BinOp.and .u8 (by3 b (0:Nat)%(16:Int)*(16:Int)) (63:Int)))) (.c (.int .u8 (by3 b (0:Nat)%(4:Int)*(16:Int)))),(0:Int)≤(1:Int)∧(1:Int)<(↑(3:Nat):Int),EqvI (.c (.int .u8 ((by3 b (1:Nat)).fdiv ((2:Int)^(4:Nat))))) (.c (.int .u8 (by3 b (1:Nat) / (16:Int)))),EqvD (.c (.int .u8 ((by3 b (1:Nat)).fdiv ((2:Int)^(4:Nat))))) (.c (.int .u8 (by3 b (1:Nat) / (16:Int)))),(0:Int)≤(4:Int),EqvI (.c (.int .u8 (bitsI BinOp.or .u8 (by3 b (0:Nat)%(4:Int)*(16:Int)) (by3 b (1:Nat) / (16:Int))))) (.c (.int .u8 (by3 b (0:Nat)%(4:Int)*(16:Int)+by3 b (1:Nat) / (16:Int)))),EqvD (.c (.int .u8 (bitsI BinOp.or .u8 (by3 b (0:Nat)%(4:Int)*(16:Int)) (by3 b (1:Nat) / (16:Int))))) (.c (.int .u8 (by3 b (0:Nat)%(4:Int)*(16:Int)+by3 b (1:Nat) / (16:Int)))),(0:Int)≤(1:Int)∧(1:Int)<(↑(3:Nat):Int),EqvI (.c (.int .u8 (IntKind.u8.wrap (by3 b (1:Nat)*(2:Int)^(2:Nat))))) (.c (.int .u8 (by3 b (1:Nat)%(64:Int)*(4:Int)))),EqvD (.c (.int .u8 (IntKind.u8.wrap (by3 b (1:Nat)*(2:Int)^(2:Nat))))) (.c (.int .u8 (by3 b (1:Nat)%(64:Int)*(4:Int)))),(0:Int)≤(2:Int),EqvI (.c (.int .u8 (bitsI BinOp.and .u8 (by3 b (1:Nat)%(64:Int)*(4:Int)) (63:Int)))) (.c (.int .u8 (by3 b (1:Nat)%(16:Int)*(4:Int)))),EqvD (.c (.int .u8 (bitsI BinOp.and .u8 (by3 b (1:Nat)%(64:Int)*(4:Int)) (63:Int)))) (.c (.int .u8 (by3 b (1:Nat)%(16:Int)*(4:Int)))),(0:Int)≤(2:Int)∧(2:Int)<(↑(3:Nat):Int),EqvI (.c (.int .u8 ((by3 b (2:Nat)).fdiv ((2:Int)^(6:Nat))))) (.c (.int .u8 (by3 b (2:Nat) / (64:Int)))),EqvD (.c (.int .u8 ((by3 b (2:Nat)).fdiv ((2:Int)^(6:Nat))))) (.c (.int .u8 (by3 b (2:Nat) / (64:Int)))),(0:Int)≤(6:Int),EqvI (.c (.int .u8 (bitsI BinOp.or .u8 (by3 b (1:Nat)%(16:Int)*(4:Int)) (by3 b (2:Nat) / (64:Int))))) (.c (.int .u8 (by3 b (1:Nat)%(16:Int)*(4:Int)+by3 b (2:Nat) / (64:Int)))),EqvD (.c (.int .u8 (bitsI BinOp.or .u8 (by3 b (1:Nat)%(16:Int)*(4:Int)) (by3 b (2:Nat) / (64:Int))))) (.c (.int .u8 (by3 b (1:Nat)%(16:Int)*(4:Int)+by3 b (2:Nat) / (64:Int)))),(0:Int)≤(2:Int)∧(2:Int)<(↑(3:Nat):Int),EqvI (.c (.int .u8 (bitsI BinOp.and .u8 (by3 b (2:Nat)) (63:Int)))) (.c (.int .u8 (by3 b (2:Nat)%(64:Int)))),EqvD (.c (.int .u8 (bitsI BinOp.and .u8 (by3 b (2:Nat)) (63:Int)))) (.c (.int .u8 (by3 b (2:Nat)%(64:Int))))] ⟨⟨dC,⟨dC,dC⟩⟩,aS,oM,aS,aS,oM,fun _ _=>trivial,aS,oM,oM,fun _ _=>trivial,aS,oM,fun _ _=>trivial,aS,oM,fun _ _=>trivial,aS,oM,fun _ _=>trivial,aS,oM,fun _ _=>trivial,aS,oM,fun _ _=>trivial,aS,oM,fun _ _=>trivial,aS,oM,fun _ _=>trivial,aS,oM,fun _ _=>trivial,(show EqvD (.c (.int .u8 (bitsI BinOp.and .u8 (by3 b (2:Nat)) (63:Int)))) (.c (.int .u8 (by3 b (2:Nat)%(64:Int)))) from aS)⟩ ?_
 exact zr
def xv (s:List UInt8) (i j:Nat):Int:=if j<i then sgI (s.getD j 0) else 0
theorem xv_old (s:List UInt8) (i j:Nat) (h:j≠i):xv s i j=xv s (i+1) j:=by
 unfold xv
 by_cases hj:j<i
 ·rw [if_pos hj,if_pos oM]
 ·rw [if_neg hj,if_neg oM]
theorem xv_new (s:List UInt8) (i:Nat):xv s (i+1) i=sgI (s.getD i 0):=if_pos oM
theorem xv_rng (s:List UInt8) (i j:Nat) (h:∀ k,k<i→0≤sgI (s.getD k 0)):0≤xv s i j∧xv s i j<64:=by
 unfold xv
 split
 ·have:=h j aS
  rcases sgI_rng (s.getD j 0) with h1 | h1<;>omega
 ·omega
def o3 (s:List UInt8):List Int:=[xv s s.length 0*4+xv s s.length 1 / 16,xv s s.length 1%16*16+xv s s.length 2 / 4,xv s s.length 2%4*64+xv s s.length 3]
theorem idx8_ok (c:UInt8):Pur Tryz.prog G 175 [.c (.str [65,66,67,68,69,70,71,72,73,74,75,76,77,78,79,80,81,82,83,84,85,86,87,88,89,90,97,98,99,100,101,102,103,104,105,106,107,108,109,110,111,112,113,114,115,116,117,118,119,120,121,122,48,49,50,51,52,53,54,55,56,57,45,95]),.c (.int .u8 (c.toNat:Int))] [.c (.int .i64 (sgI c))]:=by
 have:=lib_IndexByte (G:=G) sgs c
 rw [sgI_lib] at this
 exact this
def outB (s:List UInt8):List UInt8:=((o3 s).map (fun x=>UInt8.ofNat x.toNat)).take (s.length-1)
def qB (s:List UInt8):Bool:=(by3 (outB s) 0 / 4==xv s s.length 0)&&((by3 (outB s) 0%4*16+by3 (outB s) 1 / 16==xv s s.length 1)&&((by3 (outB s) 1%16*4+by3 (outB s) 2 / 64==xv s s.length 2)&&((by3 (outB s) 2%64==xv s s.length 3)&&true)))
def sgnAll (s:List UInt8):Prop:=∀ j,j<s.length→0≤sgI (s.getD j 0)
theorem outB_len (s:List UInt8) (h4:s.length≤4):(outB s).length=s.length-1:=by
 simp only [outB,o3,List.map,List.length_take,List.length_cons,List.length_nil];omega
theorem u8_of {x:Int} (h:0≤x∧x<256):((UInt8.ofNat x.toNat).toNat:Int)=x:=by
 obtain ⟨n,rfl⟩:=Int.eq_ofNat_of_zero_le h.1
 simp;omega
theorem outB_cell (s:List UInt8) (h4:s.length≤4) (ha:sgnAll s) (i:Nat) (hi:i<s.length-1):nthD [.int .u8 (xv s s.length 0*4+xv s s.length 1 / 16),.int .u8 (xv s s.length 1%16*16+xv s s.length 2 / 4),.int .u8 (xv s s.length 2%4*64+xv s s.length 3)] i = .int .u8 (((outB s).getD i 0).toNat:Int):=by
 have x0:=xv_rng s s.length 0 ha
 have x1:=xv_rng s s.length 1 ha
 have x2:=xv_rng s s.length 2 ha
 have x3:=xv_rng s s.length 3 ha
 have e:(outB s).getD i 0=((o3 s).map (fun x=>UInt8.ofNat x.toNat)).getD i 0:=by
  simp only [outB,List.getD_eq_getElem?_getD,List.getElem?_take,if_pos hi]
 rw [e]
 have:i=0∨i=1∨i=2:=by omega
 rcases this with rfl | rfl | rfl
 ·exact congrArg (Cell.int .u8) (u8_of oM).symm
 ·exact congrArg (Cell.int .u8) (u8_of oM).symm
 ·exact congrArg (Cell.int .u8) (u8_of oM).symm
def partG (s:List UInt8):List V1:=[.c (.sl 1 (s.length-1) (bytesF (outB s))),.c (.bool (if s.length=1 then false else qB s))]
theorem part_bad (s:List UInt8) (h0:0<s.length) (h4:s.length≤4) (hb:¬ sgnAll s):Pur Tryz.prog G 169 [.c (.str s)] [.c .nilsl,.c (.bool false)]:=by
 refine zp Tryz.func169 ?_
 refine z0 [] [] ?_
 refine zl (fun (k:Nat)=>⟨[(0,.v (.c (.str s))),(4,.v (.c (.ptr (32:Nat) (0:Nat)))),(10,.v (.c (.int .i64 (↑s.length:Int)))),(11,.v (.c (.int .i64 (k:Int))))],[(32,.box 171 [.int .u8 (xv s k 0),.int .u8 (xv s k 1),.int .u8 (xv s k 2),.int .u8 (xv s k 3)])],96⟩) (fun k=>k≤s.length∧∀ j,j<k→0≤sgI (s.getD j 0)) (fun k=>s.length-k) 0 ⟨Nat.zero_le _,fun j hj=>absurd hj oM⟩ ?_ [(32,32)]
 intro k L ⟨hk,hq⟩ again
 rcases Nat.lt_or_ge k s.length with hlt | hge
 ·have ht0:decide ((k:Int)<(s.length:Int))=true:=by simp;omega
  have c1:=idx8_ok (G:=G) (s.getD k 0)
  rcases sgI_rng (s.getD k 0) with hs | ⟨hs0,hs1,_⟩
  ·have ht1:decide (sgI (s.getD k 0)<0)=true:=by rw [hs];rfl
   clear hq hb
   refine zg [(5,{cs:=[(3,pc c1)]})] [true,true] [decide ((k:Int)<(s.length:Int))=true,(0:Int)≤(k:Int)∧(k:Int)<(s.length:Int),decide (sgI (s.getD k (0:UInt8))<(0:Int))=true] ⟨aS,oM,(show decide (sgI (s.getD k (0:UInt8))<(0:Int))=true from aS)⟩ ?_
   exact zr
  ·have ht1:decide (sgI (s.getD k 0)<0)=false:=decide_eq_false oM
   have hnx:∀ j,j<k+1→0≤sgI (s.getD j 0):=fun j hj=>by
    by_cases h:j=k
    ·rw [h];exact hs0
    ·exact hq j oM
   have e1:EqvD (.c (.int .u8 (IntKind.u8.wrap (sgI (s.getD k 0))))) (.c (.int .u8 (sgI (s.getD k 0)))):=eqvD_of (by rw [wrap8u oM])
   have n0:=xv_new s k
   have o0:=xv_old s k 0
   have o1:=xv_old s k 1
   have o2:=xv_old s k 2
   have o3:=xv_old s k 3
   clear hq hb
   have:k=0∨k=1∨k=2∨k=3:=by omega
   rcases this with rfl | rfl | rfl | rfl
   ·rw [o1 dC,o2 dC,o3 dC]
    refine zg [(8,{fm:=[(2,.c (.int .u8 (sgI (s.getD 0 0))))]}),(5,{cs:=[(3,pc c1)]})] [true,false] [decide ((↑(0:Nat):Int)<(s.length:Int))=true,(0:Int)≤(↑(0:Nat):Int)∧(↑(0:Nat):Int)<(s.length:Int),decide (sgI (s.getD (0:Nat) (0:UInt8))<(0:Int))=false,EqvI (.c (.int .u8 (IntKind.u8.wrap (sgI (s.getD (0:Nat) (0:UInt8)))))) (.c (.int .u8 (sgI (s.getD (0:Nat) (0:UInt8))))),EqvD (.c (.int .u8 (IntKind.u8.wrap (sgI (s.getD (0:Nat) (0:UInt8)))))) (.c (.int .u8 (sgI (s.getD (0:Nat) (0:UInt8))))),(0:Int)≤(↑(0:Nat):Int)∧(↑(0:Nat):Int)<(↑(4:Nat):Int),inR .i64 ((↑(0:Nat):Int)+(1:Int))] ⟨(by assumption),(by omega),(by assumption),fun _ _=>trivial,(by assumption),(by omega),inR64 (by omega) (by omega)⟩ ?_
    exact za [] (again _ (0+1) ⟨aS,aS⟩ oM)
   ·rw [o0 dC,o2 dC,o3 dC]
    refine zg [(8,{fm:=[(2,.c (.int .u8 (sgI (s.getD 1 0))))]}),(5,{cs:=[(3,pc c1)]})] [true,false] [decide ((↑(1:Nat):Int)<(s.length:Int))=true,(0:Int)≤(↑(1:Nat):Int)∧(↑(1:Nat):Int)<(s.length:Int),decide (sgI (s.getD (1:Nat) (0:UInt8))<(0:Int))=false,EqvI (.c (.int .u8 (IntKind.u8.wrap (sgI (s.getD (1:Nat) (0:UInt8)))))) (.c (.int .u8 (sgI (s.getD (1:Nat) (0:UInt8))))),EqvD (.c (.int .u8 (IntKind.u8.wrap (sgI (s.getD (1:Nat) (0:UInt8)))))) (.c (.int .u8 (sgI (s.getD (1:Nat) (0:UInt8))))),(0:Int)≤(↑(1:Nat):Int)∧(↑(1:Nat):Int)<(↑(4:Nat):Int),inR .i64 ((↑(1:Nat):Int)+(1:Int))] ⟨(by assumption),(by omega),(by assumption),fun _ _=>trivial,(by assumption),(by omega),inR64 (by omega) (by omega)⟩ ?_
    exact za [] (again _ (1+1) ⟨aS,aS⟩ oM)
   ·rw [o0 dC,o1 dC,o3 dC]
    refine zg [(8,{fm:=[(2,.c (.int .u8 (sgI (s.getD 2 0))))]}),(5,{cs:=[(3,pc c1)]})] [true,false] [decide ((↑(2:Nat):Int)<(s.length:Int))=true,(0:Int)≤(↑(2:Nat):Int)∧(↑(2:Nat):Int)<(s.length:Int),decide (sgI (s.getD (2:Nat) (0:UInt8))<(0:Int))=false,EqvI (.c (.int .u8 (IntKind.u8.wrap (sgI (s.getD (2:Nat) (0:UInt8)))))) (.c (.int .u8 (sgI (s.getD (2:Nat) (0:UInt8))))),EqvD (.c (.int .u8 (IntKind.u8.wrap (sgI (s.getD (2:Nat) (0:UInt8)))))) (.c (.int .u8 (sgI (s.getD (2:Nat) (0:UInt8))))),(0:Int)≤(↑(2:Nat):Int)∧(↑(2:Nat):Int)<(↑(4:Nat):Int),inR .i64 ((↑(2:Nat):Int)+(1:Int))] ⟨(by assumption),(by omega),(by assumption),fun _ _=>trivial,(by assumption),(by omega),inR64 (by omega) (by omega)⟩ ?_
    exact za [] (again _ (2+1) ⟨aS,aS⟩ oM)
   ·rw [o0 dC,o1 dC,o2 dC]
    refine zg [(8,{fm:=[(2,.c (.int .u8 (sgI (s.getD 3 0))))]}),(5,{cs:=[(3,pc c1)]})] [true,false] [decide ((↑(3:Nat):Int)<(s.length:Int))=true,(0:Int)≤(↑(3:Nat):Int)∧(↑(3:Nat):Int)<(s.length:Int),decide (sgI (s.getD (3:Nat) (0:UInt8))<(0:Int))=false,EqvI (.c (.int .u8 (IntKind.u8.wrap (sgI (s.getD (3:Nat) (0:UInt8)))))) (.c (.int .u8 (sgI (s.getD (3:Nat) (0:UInt8))))),EqvD (.c (.int .u8 (IntKind.u8.wrap (sgI (s.getD (3:Nat) (0:UInt8)))))) (.c (.int .u8 (sgI (s.getD (3:Nat) (0:UInt8))))),(0:Int)≤(↑(3:Nat):Int)∧(↑(3:Nat):Int)<(↑(4:Nat):Int),inR .i64 ((↑(3:Nat):Int)+(1:Int))] ⟨(by assumption),(by omega),(by assumption),fun _ _=>trivial,(by assumption),(by omega),inR64 (by omega) (by omega)⟩ ?_
    exact za [] (again _ (3+1) ⟨aS,aS⟩ oM)
 ·exact absurd (fun j hj=>hq j oM) hb
theorem part_good (s:List UInt8) (h0:0<s.length) (h4:s.length≤4) (ha:sgnAll s):Pur Tryz.prog G 169 [.c (.str s)] (partG s):=by
 refine zp Tryz.func169 ?_
 refine z0 [] [] ?_
 refine zl (fun (k:Nat)=>⟨[(0,.v (.c (.str s))),(4,.v (.c (.ptr (32:Nat) (0:Nat)))),(10,.v (.c (.int .i64 (↑s.length:Int)))),(11,.v (.c (.int .i64 (k:Int))))],[(32,.box 171 [.int .u8 (xv s k 0),.int .u8 (xv s k 1),.int .u8 (xv s k 2),.int .u8 (xv s k 3)])],96⟩) (fun k=>k≤s.length) (fun k=>s.length-k) 0 (Nat.zero_le _) ?_ [(32,32)]
 intro k L hk again
 rcases Nat.lt_or_ge k s.length with hlt | hge
 ·have ht0:decide ((k:Int)<(s.length:Int))=true:=by simp;omega
  have c1:=idx8_ok (G:=G) (s.getD k 0)
  have hs0:=ha k hlt
  have hs1:sgI (s.getD k 0)<64:=by rcases sgI_rng (s.getD k 0) with h | h<;>omega
  have ht1:decide (sgI (s.getD k 0)<0)=false:=decide_eq_false oM
  have e1:EqvD (.c (.int .u8 (IntKind.u8.wrap (sgI (s.getD k 0))))) (.c (.int .u8 (sgI (s.getD k 0)))):=eqvD_of (by rw [wrap8u oM])
  have n0:=xv_new s k
  have o0:=xv_old s k 0
  have o1:=xv_old s k 1
  have o2:=xv_old s k 2
  have o3:=xv_old s k 3
  have:k=0∨k=1∨k=2∨k=3:=by omega
  rcases this with rfl | rfl | rfl | rfl
  ·rw [o1 dC,o2 dC,o3 dC]
   refine zg [(8,{fm:=[(2,.c (.int .u8 (sgI (s.getD 0 0))))]}),(5,{cs:=[(3,pc c1)]})] [true,false] [decide ((↑(0:Nat):Int)<(s.length:Int))=true,(0:Int)≤(↑(0:Nat):Int)∧(↑(0:Nat):Int)<(s.length:Int),decide (sgI (s.getD (0:Nat) (0:UInt8))<(0:Int))=false,EqvI (.c (.int .u8 (IntKind.u8.wrap (sgI (s.getD (0:Nat) (0:UInt8)))))) (.c (.int .u8 (sgI (s.getD (0:Nat) (0:UInt8))))),EqvD (.c (.int .u8 (IntKind.u8.wrap (sgI (s.getD (0:Nat) (0:UInt8)))))) (.c (.int .u8 (sgI (s.getD (0:Nat) (0:UInt8))))),(0:Int)≤(↑(0:Nat):Int)∧(↑(0:Nat):Int)<(↑(4:Nat):Int),inR .i64 ((↑(0:Nat):Int)+(1:Int))] ⟨aS,oM,aS,fun _ _=>trivial,aS,oM,i6⟩ ?_
   exact za [] (again _ (0+1) aS oM)
  ·rw [o0 dC,o2 dC,o3 dC]
   refine zg [(8,{fm:=[(2,.c (.int .u8 (sgI (s.getD 1 0))))]}),(5,{cs:=[(3,pc c1)]})] [true,false] [decide ((↑(1:Nat):Int)<(s.length:Int))=true,(0:Int)≤(↑(1:Nat):Int)∧(↑(1:Nat):Int)<(s.length:Int),decide (sgI (s.getD (1:Nat) (0:UInt8))<(0:Int))=false,EqvI (.c (.int .u8 (IntKind.u8.wrap (sgI (s.getD (1:Nat) (0:UInt8)))))) (.c (.int .u8 (sgI (s.getD (1:Nat) (0:UInt8))))),EqvD (.c (.int .u8 (IntKind.u8.wrap (sgI (s.getD (1:Nat) (0:UInt8)))))) (.c (.int .u8 (sgI (s.getD (1:Nat) (0:UInt8))))),(0:Int)≤(↑(1:Nat):Int)∧(↑(1:Nat):Int)<(↑(4:Nat):Int),inR .i64 ((↑(1:Nat):Int)+(1:Int))] ⟨aS,oM,aS,fun _ _=>trivial,aS,oM,i6⟩ ?_
   exact za [] (again _ (1+1) aS oM)
  ·rw [o0 dC,o1 dC,o3 dC]
   refine zg [(8,{fm:=[(2,.c (.int .u8 (sgI (s.getD 2 0))))]}),(5,{cs:=[(3,pc c1)]})] [true,false] [decide ((↑(2:Nat):Int)<(s.length:Int))=true,(0:Int)≤(↑(2:Nat):Int)∧(↑(2:Nat):Int)<(s.length:Int),decide (sgI (s.getD (2:Nat) (0:UInt8))<(0:Int))=false,EqvI (.c (.int .u8 (IntKind.u8.wrap (sgI (s.getD (2:Nat) (0:UInt8)))))) (.c (.int .u8 (sgI (s.getD (2:Nat) (0:UInt8))))),EqvD (.c (.int .u8 (IntKind.u8.wrap (sgI (s.getD (2:Nat) (0:UInt8)))))) (.c (.int .u8 (sgI (s.getD (2:Nat) (0:UInt8))))),(0:Int)≤(↑(2:Nat):Int)∧(↑(2:Nat):Int)<(↑(4:Nat):Int),inR .i64 ((↑(2:Nat):Int)+(1:Int))] ⟨aS,oM,aS,fun _ _=>trivial,aS,oM,i6⟩ ?_
   exact za [] (again _ (2+1) aS oM)
  ·rw [o0 dC,o1 dC,o2 dC]
   refine zg [(8,{fm:=[(2,.c (.int .u8 (sgI (s.getD 3 0))))]}),(5,{cs:=[(3,pc c1)]})] [true,false] [decide ((↑(3:Nat):Int)<(s.length:Int))=true,(0:Int)≤(↑(3:Nat):Int)∧(↑(3:Nat):Int)<(s.length:Int),decide (sgI (s.getD (3:Nat) (0:UInt8))<(0:Int))=false,EqvI (.c (.int .u8 (IntKind.u8.wrap (sgI (s.getD (3:Nat) (0:UInt8)))))) (.c (.int .u8 (sgI (s.getD (3:Nat) (0:UInt8))))),EqvD (.c (.int .u8 (IntKind.u8.wrap (sgI (s.getD (3:Nat) (0:UInt8)))))) (.c (.int .u8 (sgI (s.getD (3:Nat) (0:UInt8))))),(0:Int)≤(↑(3:Nat):Int)∧(↑(3:Nat):Int)<(↑(4:Nat):Int),inR .i64 ((↑(3:Nat):Int)+(1:Int))] ⟨aS,oM,aS,fun _ _=>trivial,aS,oM,i6⟩ ?_
   exact za [] (again _ (3+1) aS oM)
 ·obtain rfl:k=s.length:=by omega
  have ht0:decide ((s.length:Int)<(s.length:Int))=false:=by simp
  have c3:=three_ok (G:=G) (xv s s.length 0) (xv s s.length 1) (xv s s.length 2) (xv s s.length 3) (xv_rng s s.length 0 ha) (xv_rng s s.length 1 ha) (xv_rng s s.length 2 ha) (xv_rng s s.length 3 ha)
  refine z0 [] [] ?_
  refine zc (decide ((s.length:Int)<(s.length:Int))) (fun h9 => ?_) (fun h9 => ?_)
  ·rw [ht0] at h9;exact absurd h9 dC
  ·have hN:EqvD (.c (.int .i64 ((s.length:Int)-1))) (.c (.int .i64 ((s.length-1:Nat):Int))):=eqvD_of (by rw [show (s.length:Int)-1=((s.length-1:Nat):Int) by omega])
   refine zn [(10,{fm:=[(2,.c (.int .i64 ((s.length-1:Nat):Int)))]}),(11,{cs:=[(1,pc c3)]})] 6 [] [EqvI (.c (.int .i64 ((s.length:Int)-1))) (.c (.int .i64 ((s.length-1:Nat):Int))),EqvD (.c (.int .i64 ((s.length:Int)-1))) (.c (.int .i64 ((s.length-1:Nat):Int))),inR .i64 ((s.length:Int)-1)] ⟨fun _ _=>trivial,hN,i6⟩ ?_
   refine Wp.ent' kR (Ent.pubB (id:=208) (t:=8) (n:=3) (e:=182) (cs:=[Cell.int .u8 (xv s s.length 0*4+xv s s.length 1 / 16),Cell.int .u8 (xv s s.length 1%16*16+xv s s.length 2 / 4),Cell.int .u8 (xv s s.length 2%4*64+xv s s.length 3)]) (f:=nthD [Cell.int .u8 (xv s s.length 0*4+xv s s.length 1 / 16),Cell.int .u8 (xv s s.length 1%16*16+xv s s.length 2 / 4),Cell.int .u8 (xv s s.length 2%4*64+xv s s.length 3)]) kR kR kR rfl (fun j _=>rfl) rfl) ?_
   have c4:=four_ok (G:=G) (outB s) (by rw [outB_len s h4];omega)
   rw [outB_len s h4] at c4
   have hE:EqvD (.c (.sl 1 (s.length-1-0) (fun i j=>nthD [Cell.int .u8 (xv s s.length 0*4+xv s s.length 1 / 16),Cell.int .u8 (xv s s.length 1%16*16+xv s s.length 2 / 4),Cell.int .u8 (xv s s.length 2%4*64+xv s s.length 3)] ((0+i)*1+j)))) (.c (.sl 1 (s.length-1) (bytesF (outB s)))):=EqvD.sl (Nat.sub_zero _) (fun i hi j hj=>by
    obtain rfl:j=0:=by omega
    have e:(0+i)*1+0=i:=by simp
    rw [e]
    exact outB_cell s h4 ha i oM)
   have hb0:s.length-1≤3:=by omega
   by_cases h1:s.length=1
   ·have ht1:decide (((s.length-1:Nat):Int)>0)=false:=by simp;omega
    rw [show partG s=[.c (.sl 1 (s.length-1) (bytesF (outB s))),.c (.bool false)] by rw [partG,if_pos h1]]
    clear h9 ht0
    refine zg [(12,{fm:=[(2,.c (.sl 1 (s.length-1) (bytesF (outB s))))],grd:=[(6,false),(7,false),(8,false),(9,false),(10,false),(11,false),(12,false)]})] [] [EqvI (.c (.sl 1 ((Int.ofNat (s.length-(1:Nat))).toNat-(0:Nat)) fun i j=>nthD [.int .u8 (xv s s.length (0:Nat)*(4:Int)+xv s s.length (1:Nat) / (16:Int)),.int .u8 (xv s s.length (1:Nat)%(16:Int)*(16:Int)+xv s s.length (2:Nat) / (4:Int)),.int .u8 (xv s s.length (2:Nat)%(4:Int)*(64:Int)+xv s s.length (3:Nat))] (((0:Nat)+i)*(1:Nat)+j))) (.c (.sl 1 (s.length-(1:Nat)) (bytesF (outB s)))),EqvD (.c (.sl 1 ((Int.ofNat (s.length-(1:Nat))).toNat-(0:Nat)) fun i j=>nthD [.int .u8 (xv s s.length (0:Nat)*(4:Int)+xv s s.length (1:Nat) / (16:Int)),.int .u8 (xv s s.length (1:Nat)%(16:Int)*(16:Int)+xv s s.length (2:Nat) / (4:Int)),.int .u8 (xv s s.length (2:Nat)%(4:Int)*(64:Int)+xv s s.length (3:Nat))] (((0:Nat)+i)*(1:Nat)+j))) (.c (.sl 1 (s.length-(1:Nat)) (bytesF (outB s)))),(0:Int)≤Int.ofNat (0)∧Int.ofNat (0)≤Int.ofNat (s.length-(1:Nat))∧Int.ofNat (s.length-(1:Nat))≤Int.ofNat (s.length-(1:Nat))∧Int.ofNat (s.length-(1:Nat))≤(↑(3:Nat):Int),decide ((↑(s.length-(1:Nat)):Int)>(0:Int)) = !true,decide ((↑(s.length-(1:Nat)):Int)>(0:Int)) = !true,decide ((↑(s.length-(1:Nat)):Int)>(0:Int)) = !true,decide ((↑(s.length-(1:Nat)):Int)>(0:Int)) = !true,decide ((↑(s.length-(1:Nat)):Int)>(0:Int)) = !true,decide ((↑(s.length-(1:Nat)):Int)>(0:Int)) = !true,decide ((↑(s.length-(1:Nat)):Int)>(0:Int))=false] ⟨fun _ _=>trivial,aS,⟨dC,⟨(by simp;done),⟨oM,sO⟩⟩⟩,aS,aS,aS,aS,aS,aS,(show decide ((↑(s.length-(1:Nat)):Int)>(0:Int))=false from aS)⟩ ?_
    exact zr
   ·have ht1:decide (((s.length-1:Nat):Int)>0)=true:=by simp;omega
    rw [show partG s=[.c (.sl 1 (s.length-1) (bytesF (outB s))),.c (.bool (qB s))] by rw [partG,if_neg h1]]
    clear h9 ht0
    refine zg [(12,{cs:=[(9,pc c4)],fm:=[(2,.c (.sl 1 (s.length-1) (bytesF (outB s)))),(8,.c (.sl 1 (s.length-1) (bytesF (outB s))))],grd:=[(6,true),(7,true),(8,true),(9,true),(10,true),(11,true),(12,true)]})] [] [EqvI (.c (.sl 1 ((Int.ofNat (s.length-(1:Nat))).toNat-(0:Nat)) fun i j=>nthD [.int .u8 (xv s s.length (0:Nat)*(4:Int)+xv s s.length (1:Nat) / (16:Int)),.int .u8 (xv s s.length (1:Nat)%(16:Int)*(16:Int)+xv s s.length (2:Nat) / (4:Int)),.int .u8 (xv s s.length (2:Nat)%(4:Int)*(64:Int)+xv s s.length (3:Nat))] (((0:Nat)+i)*(1:Nat)+j))) (.c (.sl 1 (s.length-(1:Nat)) (bytesF (outB s)))),EqvD (.c (.sl 1 ((Int.ofNat (s.length-(1:Nat))).toNat-(0:Nat)) fun i j=>nthD [.int .u8 (xv s s.length (0:Nat)*(4:Int)+xv s s.length (1:Nat) / (16:Int)),.int .u8 (xv s s.length (1:Nat)%(16:Int)*(16:Int)+xv s s.length (2:Nat) / (4:Int)),.int .u8 (xv s s.length (2:Nat)%(4:Int)*(64:Int)+xv s s.length (3:Nat))] (((0:Nat)+i)*(1:Nat)+j))) (.c (.sl 1 (s.length-(1:Nat)) (bytesF (outB s)))),(0:Int)≤Int.ofNat (0)∧Int.ofNat (0)≤Int.ofNat (s.length-(1:Nat))∧Int.ofNat (s.length-(1:Nat))≤Int.ofNat (s.length-(1:Nat))∧Int.ofNat (s.length-(1:Nat))≤(↑(3:Nat):Int),decide ((↑(s.length-(1:Nat)):Int)>(0:Int))=true,decide ((↑(s.length-(1:Nat)):Int)>(0:Int))=true,decide ((↑(s.length-(1:Nat)):Int)>(0:Int))=true,EqvI (.c (.sl 1 ((Int.ofNat (s.length-(1:Nat))).toNat-(0:Nat)) fun i j=>nthD [.int .u8 (xv s s.length (0:Nat)*(4:Int)+xv s s.length (1:Nat) / (16:Int)),.int .u8 (xv s s.length (1:Nat)%(16:Int)*(16:Int)+xv s s.length (2:Nat) / (4:Int)),.int .u8 (xv s s.length (2:Nat)%(4:Int)*(64:Int)+xv s s.length (3:Nat))] (((0:Nat)+i)*(1:Nat)+j))) (.c (.sl 1 (s.length-(1:Nat)) (bytesF (outB s)))),EqvD (.c (.sl 1 ((Int.ofNat (s.length-(1:Nat))).toNat-(0:Nat)) fun i j=>nthD [.int .u8 (xv s s.length (0:Nat)*(4:Int)+xv s s.length (1:Nat) / (16:Int)),.int .u8 (xv s s.length (1:Nat)%(16:Int)*(16:Int)+xv s s.length (2:Nat) / (4:Int)),.int .u8 (xv s s.length (2:Nat)%(4:Int)*(64:Int)+xv s s.length (3:Nat))] (((0:Nat)+i)*(1:Nat)+j))) (.c (.sl 1 (s.length-(1:Nat)) (bytesF (outB s)))),(0:Int)≤Int.ofNat (0)∧Int.ofNat (0)≤Int.ofNat (s.length-(1:Nat))∧Int.ofNat (s.length-(1:Nat))≤Int.ofNat (s.length-(1:Nat))∧Int.ofNat (s.length-(1:Nat))≤(↑(3:Nat):Int),decide ((↑(s.length-(1:Nat)):Int)>(0:Int))=true,decide ((↑(s.length-(1:Nat)):Int)>(0:Int))=true,decide ((↑(s.length-(1:Nat)):Int)>(0:Int))=true,decide ((↑(s.length-(1:Nat)):Int)>(0:Int))=true] ⟨fun _ _=>trivial,aS,⟨dC,⟨(by simp;done),⟨oM,sO⟩⟩⟩,aS,aS,aS,fun _ _=>trivial,aS,⟨dC,⟨(by simp;done),⟨oM,sO⟩⟩⟩,aS,aS,aS,(show decide ((↑(s.length-(1:Nat)):Int)>(0:Int))=true from aS)⟩ ?_
    exact zr
end Go.Proofs.Tw
end
section
open Go Go.Sv Go.RowKit
namespace Go.Proofs.Tw
set_option maxRecDepth 100000
set_option maxHeartbeats 4000000
theorem rd8_acc:∀ (r:List UInt8) (v:Int) (bits:Nat) (out:List UInt8),rd8 r v bits out=(rd8 r v bits []).map (out++·)
 | [],_,_,out=>by simp [rd8]
 | c::r,v,bits,out=>by
  unfold rd8
  split
  ·rfl
  ·split
   ·exact rd8_acc r _ _ out
   ·rw [rd8_acc r _ _ (out++_),rd8_acc r _ _ ([]++_)]
    cases rd8 r ((v*64+sgI c)%2^(bits-2)) (bits-2) []<;>simp
theorem v3_shift (x y z:UInt8) (o:List UInt8) (g:Nat):∀ k,v3 (x::y::z::o) (3*(g+1)) k=v3 o (3*g) k∧n3 (x::y::z::o) (3*(g+1)) k=n3 o (3*g) k
 | 0=>⟨rfl,rfl⟩
 | k+1=>by
  obtain ⟨h1,h2⟩:=v3_shift x y z o g k
  have e:3*(g+1)+k=(3*g+k)+1+1+1:=by omega
  have e2:(x::y::z::o).getD (3*(g+1)+k) 0=o.getD (3*g+k) 0:=by
   rw [e,List.getD_cons_succ,List.getD_cons_succ,List.getD_cons_succ]
  have e3:3*(g+1)+k<(x::y::z::o).length↔3*g+k<o.length:=by simp only [List.length_cons];omega
  constructor
  ·rw [v3,v3,h1,e2];simp only [e3]
  ·rw [n3,n3,h2];simp only [e3]
def w3 (x y z:UInt8):Int:=(((0*256+(x.toNat:Int))*256+(y.toNat:Int))*256+(z.toNat:Int))
theorem grp_first (x y z:UInt8) (o:List UInt8):grp (x::y::z::o) 0=sgs6 (w3 x y z) 4:=by
 have h1:v3 (x::y::z::o) (3*0) 3=w3 x y z:=by
  rw [v3,if_pos (by simp only [List.length_cons];omega),v3,if_pos (by simp only [List.length_cons];omega),v3,if_pos (by simp only [List.length_cons];omega)];rfl
 have h2:n3 (x::y::z::o) (3*0) 3=3:=by
  rw [n3,if_pos (by simp only [List.length_cons];omega),n3,if_pos (by simp only [List.length_cons];omega),n3,if_pos (by simp only [List.length_cons];omega)];rfl
 rw [grp,h1,h2]
theorem encG_shift (x y z:UInt8) (o:List UInt8):∀ g,encG (x::y::z::o) (g+1)=sgs6 (w3 x y z) 4++encG o g
 | 0=>by rw [encG,encG,grp_first]; simp [encG]
 | g+1=>by
  rw [encG,encG_shift x y z o g,encG,List.append_assoc]
  congr 2
  unfold grp
  rw [(v3_shift x y z o g 3).1,(v3_shift x y z o g 3).2]
theorem enc8_step (x y z:UInt8) (o:List UInt8):enc8 (x::y::z::o)=sgs6 (w3 x y z) 4++enc8 o:=by
 unfold enc8
 rw [show ((x::y::z::o).length+2) / 3=(o.length+2) / 3+1 by simp only [List.length_cons];omega,encG_shift]
theorem enc8_two (x y:UInt8):enc8 [x,y]=sgs6 ((((0*256+(x.toNat:Int))*256+(y.toNat:Int))*256)) 3:=by
 unfold enc8
 rw [show ([x,y].length+2) / 3=0+1 by simp]
 simp only [encG,grp,List.nil_append]
 rfl
theorem enc8_one (x:UInt8):enc8 [x]=sgs6 ((((0*256+(x.toNat:Int))*256)*256)) 2:=by
 unfold enc8
 rw [show ([x].length+2) / 3=0+1 by simp]
 simp only [encG,grp,List.nil_append]
 rfl
theorem sgn_eq (n:Int) (c:UInt8) (h:0≤n∧n<64) (hc:0≤sgI c):sgs.getD n.toNat 0=c↔n=sgI c:=by
 rcases sgI_rng c with h1 | ⟨h1,h2,h3⟩
 ·omega
 ·constructor
  ·intro e
   have:=sgI_at n.toNat oM
   rw [e] at this;omega
  ·intro e;rw [e];exact h3
theorem six_rng (v:Int) (k:Nat):0≤six v k∧six v k<64:=by unfold six;omega
theorem six_at (v:Int) (k:Nat):six v k=v / 2^(18-6*k)%64:=by
 unfold six;rw [Int.fdiv_eq_ediv_of_nonneg _ (Int.le_of_lt (Int.pow_pos dC))]
theorem six0 (v:Int):six v 0=v / 262144%64:=six_at v 0
theorem six1 (v:Int):six v 1=v / 4096%64:=six_at v 1
theorem six2 (v:Int):six v 2=v / 64%64:=six_at v 2
theorem six3 (v:Int):six v 3=v%64:=by rw [six_at];simp
def t0 (a b:Int):Int:=a*4+b / 16
def t1 (b c:Int):Int:=b%16*16+c / 4
def t2 (c d:Int):Int:=c%4*64+d
def u8I (x:Int):UInt8:=UInt8.ofNat x.toNat
theorem u8I_nat {x:Int} (h:0≤x∧x<256):((u8I x).toNat:Int)=x:=u8_of h
theorem sgI_lt (a:UInt8):sgI a<64:=by rcases sgI_rng a with h | h<;>omega
section
variable {a b c d:UInt8} (ha:0≤sgI a) (hb:0≤sgI b)
include ha hb
theorem rd8_2 (r:List UInt8):rd8 (a::b::r) 0 0 []=rd8 r ((sgI a*64+sgI b)%16) 4 [u8I (t0 (sgI a) (sgI b))]:=by
 have la:=sgI_lt a
 have lb:=sgI_lt b
 rw [rd8_low ha dC,show 0+6=4+2 from rfl,rd8_high hb]
 have e1:b8 ((0*64+sgI a)*64+sgI b) 4=u8I (t0 (sgI a) (sgI b)):=by
  unfold b8 u8I t0;congr 2;show _ / (16:Int)=_;omega
 rw [e1]
 congr 1
 show _%(16:Int)=_%16
 omega
theorem rd8_3 (hc:0≤sgI c) (r:List UInt8):rd8 (a::b::c::r) 0 0 []=rd8 r ((sgI b*64+sgI c)%4) 2 [u8I (t0 (sgI a) (sgI b)),u8I (t1 (sgI b) (sgI c))]:=by
 have la:=sgI_lt a
 have lb:=sgI_lt b
 have lc:=sgI_lt c
 rw [rd8_2 ha hb,show 4=2+2 from rfl,rd8_high hc]
 have e1:b8 ((sgI a*64+sgI b)%16*64+sgI c) 2=u8I (t1 (sgI b) (sgI c)):=by
  unfold b8 u8I t1;congr 2;show _ / (4:Int)=_;omega
 rw [e1]
 congr 1
 show _%(4:Int)=_%4
 omega
theorem rd8_4 (hc:0≤sgI c) (hd:0≤sgI d) (r:List UInt8):rd8 (a::b::c::d::r) 0 0 []=rd8 r 0 0 [u8I (t0 (sgI a) (sgI b)),u8I (t1 (sgI b) (sgI c)),u8I (t2 (sgI c) (sgI d))]:=by
 have la:=sgI_lt a
 have lb:=sgI_lt b
 have lc:=sgI_lt c
 have ld:=sgI_lt d
 rw [rd8_3 ha hb hc,show 2=0+2 from rfl,rd8_high hd]
 have e1:b8 ((sgI b*64+sgI c)%4*64+sgI d) 0=u8I (t2 (sgI c) (sgI d)):=by
  unfold b8 u8I t2;congr 2;show _ / (1:Int)=_;omega
 rw [e1]
 congr 1
 show _%(1:Int)=_
 omega
end
theorem sgs6_4 (v:Int):sgs6 v 4=[sgn6 v 0,sgn6 v 1,sgn6 v 2,sgn6 v 3]:=rfl
theorem sgs6_3 (v:Int):sgs6 v 3=[sgn6 v 0,sgn6 v 1,sgn6 v 2]:=rfl
theorem sgs6_2 (v:Int):sgs6 v 2=[sgn6 v 0,sgn6 v 1]:=rfl
theorem sgn6_eq (v:Int) (k:Nat) (c:UInt8) (hc:0≤sgI c):sgn6 v k=c↔six v k=sgI c:=sgn_eq _ _ (six_rng v k) hc
def goodG (g:List UInt8):Bool:=g.all (fun c=>decide (0≤sgI c))&&(g.length != 1&&qB g)
theorem goodG_of {g:List UInt8}:goodG g=true↔sgnAll g∧g.length≠1∧qB g=true:=by
 unfold goodG sgnAll
 simp only [Bool.and_eq_true,List.all_eq_true,decide_eq_true_eq,bne_iff_ne,ne_eq]
 constructor
 ·rintro ⟨h,h1,h2⟩
  refine ⟨fun j hj => ?_,h1,h2⟩
  have:g.getD j 0∈g:=by
   rw [List.getD_eq_getElem?_getD,List.getElem?_eq_getElem hj];exact List.getElem_mem hj
  exact h _ this
 ·rintro ⟨h,h1,h2⟩
  refine ⟨fun c hc => ?_,h1,h2⟩
  obtain ⟨j,hj,rfl⟩:=List.mem_iff_getElem.1 hc
  have:=h j hj
  rw [List.getD_eq_getElem?_getD,List.getElem?_eq_getElem hj] at this
  exact this
theorem rd8_bad2:∀ (r:List UInt8) (v:Int) (bits:Nat) (out:List UInt8),(∃ c∈r,sgI c<0)→rd8 r v bits out=none
 | [],_,_,_,h=>by obtain ⟨c,hc,_⟩:=h; cases hc
 | c::r,v,bits,out,h=>by
  unfold rd8
  split
  ·rfl
  ·have:∃ c∈r,sgI c<0:=by
    obtain ⟨x,hx,hlt⟩:=h
    rcases List.mem_cons.1 hx with rfl | hx
    ·exact absurd hlt aS
    ·exact ⟨x,hx,hlt⟩
   split
   ·exact rd8_bad2 r _ _ _ this
   ·exact rd8_bad2 r _ _ _ this
theorem bad_in {g:List UInt8} (h:¬ (g.all (fun c=>decide (0≤sgI c))=true)):∃ c∈g,sgI c<0:=by
 simp only [List.all_eq_true,decide_eq_true_eq] at h
 exact Classical.byContradiction fun hn=>h fun c hc=>Classical.byContradiction fun h2=>hn ⟨c,hc,by omega⟩
theorem dec8_step (s:List UInt8) (h:0<s.length):dec8 s=if goodG (s.take 4)=true then (dec8 (s.drop 4)).map (outB (s.take 4)++·) else none:=by
 by_cases hall:(s.take 4).all (fun c=>decide (0≤sgI c))=true
 ·match s,h with
  | [a],_ =>
   have ha:0≤sgI a:=by simpa using hall
   have:goodG [a]=false:=by simp [goodG]
   rw [show ([a]:List UInt8).take 4=[a] from rfl,this]
   unfold dec8
   rw [rd8_low ha dC]
   simp [rd8,enc8,encG]
  | [a,b],_ =>
   have hab:0≤sgI a∧0≤sgI b:=by simpa using hall
   have la:=sgI_lt a
   have lb:=sgI_lt b
   have e1:dec8 [a,b]=if enc8 [u8I (t0 (sgI a) (sgI b))]=[a,b] then some [u8I (t0 (sgI a) (sgI b))] else none:=by
    unfold dec8;rw [rd8_2 hab.1 hab.2];rfl
   have hx:0≤t0 (sgI a) (sgI b)∧t0 (sgI a) (sgI b)<256:=by unfold t0;omega
   have ho:outB [a,b]=[u8I (t0 (sgI a) (sgI b))]:=rfl
   have e2:enc8 [u8I (t0 (sgI a) (sgI b))]=[a,b]↔goodG [a,b]=true:=by
    rw [enc8_one,sgs6_2,u8I_nat hx,goodG_of]
    simp only [List.cons.injEq,and_true,sgn6_eq _ _ _ hab.1,sgn6_eq _ _ _ hab.2,six0,six1]
    have q:qB [a,b]=((t0 (sgI a) (sgI b) / 4==sgI a)&&((t0 (sgI a) (sgI b)%4*16+0 / 16==sgI b)&&(((0:Int)%16*4+0 / 64==0)&&(((0:Int)%64==0)&&true)))):=by
     unfold qB
     rw [ho]
     have:by3 [u8I (t0 (sgI a) (sgI b))] 0=t0 (sgI a) (sgI b):=u8I_nat hx
     rw [this];rfl
    rw [q]
    simp only [Bool.and_eq_true,beq_iff_eq,Bool.and_true]
    have sa:sgnAll [a,b]:=fun j hj=>by
     have:j=0∨j=1:=by simp at hj;omega
     rcases this with rfl | rfl
     ·exact hab.1
     ·exact hab.2
    unfold t0 at hx ⊢
    constructor
    ·intro hh;exact ⟨sa,by simp,by omega,by omega,by omega⟩
    ·rintro ⟨_,_,h1,h2,_⟩;constructor<;>omega
   rw [show ([a,b]:List UInt8).take 4=[a,b] from rfl,e1,ho]
   by_cases hg:goodG [a,b]=true
   ·rw [if_pos hg,if_pos (e2.2 hg)];rfl
   ·rw [if_neg hg,if_neg (fun h=>hg (e2.1 h))]
  | [a,b,c],_ =>
   have hab:0≤sgI a∧0≤sgI b∧0≤sgI c:=by simpa using hall
   obtain ⟨ha,hb,hc⟩:=hab
   have la:=sgI_lt a
   have lb:=sgI_lt b
   have lc:=sgI_lt c
   have e1:dec8 [a,b,c]=if enc8 [u8I (t0 (sgI a) (sgI b)),u8I (t1 (sgI b) (sgI c))]=[a,b,c] then some [u8I (t0 (sgI a) (sgI b)),u8I (t1 (sgI b) (sgI c))] else none:=by
    unfold dec8;rw [rd8_3 ha hb hc];rfl
   have hx:0≤t0 (sgI a) (sgI b)∧t0 (sgI a) (sgI b)<256:=by unfold t0;omega
   have hy:0≤t1 (sgI b) (sgI c)∧t1 (sgI b) (sgI c)<256:=by unfold t1;omega
   have ho:outB [a,b,c]=[u8I (t0 (sgI a) (sgI b)),u8I (t1 (sgI b) (sgI c))]:=rfl
   have e2:enc8 [u8I (t0 (sgI a) (sgI b)),u8I (t1 (sgI b) (sgI c))]=[a,b,c]↔goodG [a,b,c]=true:=by
    rw [enc8_two,sgs6_3,u8I_nat hx,u8I_nat hy,goodG_of]
    simp only [List.cons.injEq,and_true,sgn6_eq _ _ _ ha,sgn6_eq _ _ _ hb,sgn6_eq _ _ _ hc,six0,six1,six2]
    have q:qB [a,b,c]=((t0 (sgI a) (sgI b) / 4==sgI a)&&((t0 (sgI a) (sgI b)%4*16+t1 (sgI b) (sgI c) / 16==sgI b)&&((t1 (sgI b) (sgI c)%16*4+0 / 64==sgI c)&&(((0:Int)%64==0)&&true)))):=by
     unfold qB
     rw [ho]
     have e1:by3 [u8I (t0 (sgI a) (sgI b)),u8I (t1 (sgI b) (sgI c))] 0=t0 (sgI a) (sgI b):=u8I_nat hx
     have e2:by3 [u8I (t0 (sgI a) (sgI b)),u8I (t1 (sgI b) (sgI c))] 1=t1 (sgI b) (sgI c):=u8I_nat hy
     rw [e1,e2];rfl
    rw [q]
    simp only [Bool.and_eq_true,beq_iff_eq,Bool.and_true]
    have sa:sgnAll [a,b,c]:=fun j hj=>by
     have:j=0∨j=1∨j=2:=by simp at hj;omega
     rcases this with rfl | rfl | rfl
     ·exact ha
     ·exact hb
     ·exact hc
    unfold t0 t1 at *
    constructor
    ·intro hh;exact ⟨sa,by simp,by omega,by omega,by omega,by omega⟩
    ·rintro ⟨_,_,h1,h2,h3,_⟩;refine ⟨?_,?_,?_⟩<;>omega
   rw [show ([a,b,c]:List UInt8).take 4=[a,b,c] from rfl,e1,ho]
   by_cases hg:goodG [a,b,c]=true
   ·rw [if_pos hg,if_pos (e2.2 hg)];rfl
   ·rw [if_neg hg,if_neg (fun h=>hg (e2.1 h))]
  | a::b::c::d::r,_ =>
   have hab:0≤sgI a∧0≤sgI b∧0≤sgI c∧0≤sgI d:=by simpa using hall
   obtain ⟨ha,hb,hc,hd⟩:=hab
   have la:=sgI_lt a
   have lb:=sgI_lt b
   have lc:=sgI_lt c
   have ld:=sgI_lt d
   have hx:0≤t0 (sgI a) (sgI b)∧t0 (sgI a) (sgI b)<256:=by unfold t0;omega
   have hy:0≤t1 (sgI b) (sgI c)∧t1 (sgI b) (sgI c)<256:=by unfold t1;omega
   have hz:0≤t2 (sgI c) (sgI d)∧t2 (sgI c) (sgI d)<256:=by unfold t2;omega
   have ho:outB [a,b,c,d]=[u8I (t0 (sgI a) (sgI b)),u8I (t1 (sgI b) (sgI c)),u8I (t2 (sgI c) (sgI d))]:=rfl
   have hg:goodG [a,b,c,d]=true:=by
    rw [goodG_of]
    refine ⟨fun j hj => ?_,by simp,?_⟩
    ·have:j=0∨j=1∨j=2∨j=3:=by simp at hj;omega
     rcases this with rfl | rfl | rfl | rfl
     ·exact ha
     ·exact hb
     ·exact hc
     ·exact hd
    ·have q:qB [a,b,c,d]=((t0 (sgI a) (sgI b) / 4==sgI a)&&((t0 (sgI a) (sgI b)%4*16+t1 (sgI b) (sgI c) / 16==sgI b)&&((t1 (sgI b) (sgI c)%16*4+t2 (sgI c) (sgI d) / 64==sgI c)&&((t2 (sgI c) (sgI d)%64==sgI d)&&true)))):=by
      unfold qB
      rw [ho]
      have e1:by3 [u8I (t0 (sgI a) (sgI b)),u8I (t1 (sgI b) (sgI c)),u8I (t2 (sgI c) (sgI d))] 0=t0 (sgI a) (sgI b):=u8I_nat hx
      have e2:by3 [u8I (t0 (sgI a) (sgI b)),u8I (t1 (sgI b) (sgI c)),u8I (t2 (sgI c) (sgI d))] 1=t1 (sgI b) (sgI c):=u8I_nat hy
      have e3:by3 [u8I (t0 (sgI a) (sgI b)),u8I (t1 (sgI b) (sgI c)),u8I (t2 (sgI c) (sgI d))] 2=t2 (sgI c) (sgI d):=u8I_nat hz
      rw [e1,e2,e3];rfl
     rw [q]
     simp only [Bool.and_eq_true,beq_iff_eq,Bool.and_true]
     unfold t0 t1 t2
     omega
   have hw:sgs6 (w3 (u8I (t0 (sgI a) (sgI b))) (u8I (t1 (sgI b) (sgI c))) (u8I (t2 (sgI c) (sgI d)))) 4=[a,b,c,d]:=by
    rw [w3,u8I_nat hx,u8I_nat hy,u8I_nat hz,sgs6_4]
    simp only [List.cons.injEq,and_true,sgn6_eq _ _ _ ha,sgn6_eq _ _ _ hb,sgn6_eq _ _ _ hc,sgn6_eq _ _ _ hd,six0,six1,six2,six3]
    unfold t0 t1 t2
    omega
   rw [show (a::b::c::d::r).take 4=[a,b,c,d] from rfl,show (a::b::c::d::r).drop 4=r from rfl,if_pos hg,ho]
   unfold dec8
   rw [rd8_4 ha hb hc hd,rd8_acc]
   cases rd8 r 0 0 [] with
   | none=>rfl
   | some o =>
    simp only [Option.map_some]
    rw [show [u8I (t0 (sgI a) (sgI b)),u8I (t1 (sgI b) (sgI c)),u8I (t2 (sgI c) (sgI d))]++o=u8I (t0 (sgI a) (sgI b))::u8I (t1 (sgI b) (sgI c))::u8I (t2 (sgI c) (sgI d))::o from rfl,enc8_step,hw]
    have hcons:([a,b,c,d]++enc8 o=a::b::c::d::r)↔enc8 o=r:=by simp
    by_cases he:enc8 o=r
    ·rw [if_pos (hcons.2 he),if_pos he];rfl
    ·rw [if_neg (fun h=>he (hcons.1 h)),if_neg he];rfl
 ·rw [if_neg (fun h=>hall (by unfold goodG at h;simp only [Bool.and_eq_true] at h;exact h.1))]
  unfold dec8
  obtain ⟨c,hc,hlt⟩:=bad_in hall
  rw [rd8_bad2 s 0 0 [] ⟨c,List.mem_of_mem_take hc,hlt⟩]
end Go.Proofs.Tw
end
section
open Go Go.Sv Go.RowKit
namespace Go.Proofs.Tw
attribute [local irreducible] Wp FinQ resV Ent Pur Go.Sv.Fn Sat0
set_option maxRecDepth 100000
set_option maxHeartbeats 4000000
variable {G:Nat→Option (List Cell)}
def d64Inv:List UInt8×Option (Nat×List UInt8)→St
 | (r,none)=>⟨[(0,.v (.c (.str r))),(4,.v (.c .nilsl))],[],48⟩
 | (r,some (n,l))=>⟨[(0,.v (.c (.str r))),(4,.v (.c (.row 1 40 0 n)))],[(40,.row 5 1 n (bytesF l))],48⟩
def d64F (s:List UInt8):List UInt8×Option (Nat×List UInt8)→Prop
 | (r,none)=>r=s
 | (r,some (n,l))=>n=l.length∧0<n∧n+r.length≤s.length∧dec8 s=(dec8 r).map (l++·)
theorem take_min4 (r:List UInt8):List.drop 0 (List.take (min 4 r.length) r)=r.take 4:=by
 rw [List.drop_zero,← List.take_take,List.take_length]
theorem drop_min4 (r:List UInt8):List.drop (min 4 r.length) (List.take r.length r)=r.drop 4:=by
 rw [List.take_length]
 by_cases h:4≤r.length
 ·rw [Nat.min_eq_left h]
 ·rw [Nat.min_eq_right oM,List.drop_length,List.drop_eq_nil_of_le oM]
theorem decR_none {s:List UInt8} (h:dec8 s=none):decR s=[.c .nilsl,.c (.int .i64 3)]:=by unfold decR;rw [h]
theorem decR_some {s o:List UInt8} (h:dec8 s=some o):decR s=[.c (slB o),.c (.int .i64 0)]:=by unfold decR;rw [h]
theorem dec8_nil:dec8 []=some []:=rfl
theorem part_three (g:List UInt8) (h0:0<g.length) (h4:g.length≤4):(goodG g=true∧0<(outB g).length∧(outB g).length<g.length∧Pur Tryz.prog G 169 [.c (.str g)] [.c (.sl 1 (outB g).length (bytesF (outB g))),.c (.bool true)])∨(goodG g≠true∧∃ c,c.flat=true∧Pur Tryz.prog G 169 [.c (.str g)] [.c c,.c (.bool false)]):=by
 by_cases ha:sgnAll g
 ·have c:=part_good (G:=G) g h0 h4 ha
  have hl:=outB_len g h4
  unfold partG at c
  rw [← hl] at c
  by_cases h1:g.length=1
  ·rw [if_pos h1] at c
   exact .inr ⟨fun h=>(goodG_of.1 h).2.1 h1,_,rfl,c⟩
  ·rw [if_neg h1] at c
   cases hq:qB g
   ·rw [hq] at c
    exact .inr ⟨fun h=>(by rw [(goodG_of.1 h).2.2] at hq;cases hq),_,rfl,c⟩
   ·rw [hq] at c
    exact .inl ⟨goodG_of.2 ⟨ha,h1,hq⟩,by omega,by omega,c⟩
 ·exact .inr ⟨fun h=>ha (goodG_of.1 h).1,_,rfl,part_bad g h0 h4 ha⟩
theorem dec64_ok (s:List UInt8) (hl:s.length≤30000000000000):Pur Tryz.prog G 158 [.c (.str s)] (decR s):=by
 refine zp Tryz.func158 ?_
 refine z0 [] [] ?_
 refine zl d64Inv (d64F s) (fun x=>x.1.length) (s,none) rfl ?_
 rintro ⟨r,_ | ⟨n,l⟩⟩ L hf again
 ·obtain rfl:r=s:=hf
  by_cases hr:r=[]
  ·have ht:(!(r==[]))=false:=by rw [hr];rfl
   rw [decR_some (hr▸dec8_nil:dec8 r=some [])]
   clear hl
   refine zg [] [false] [(!r==[])=false] (oN aS) ?_
   exact zr
  ·have ht:(!(r==[]))=true:=by simp [hr]
   have h0:0<r.length:=List.length_pos_iff.2 hr
   have hst:=dec8_step r h0
   have htl:(r.take 4).length=min 4 r.length:=List.length_take
   have hdl:(r.drop 4).length=r.length-4:=List.length_drop
   have e0:EqvD (.c (.int .i64 (if (r.length:Int)<4 then (r.length:Int) else 4))) (.c (.int .i64 ((min 4 r.length:Nat):Int))):=eqvD_of (by
    have:(if (r.length:Int)<4 then (r.length:Int) else 4)=((min 4 r.length:Nat):Int):=by split<;>omega
    rw [this])
   have e1:EqvD (.c (.str (List.drop 0 (List.take (min 4 r.length) r)))) (.c (.str (r.take 4))):=eqvD_of (by rw [take_min4])
   have e2:EqvD (.c (.str (List.drop (min 4 r.length) (List.take r.length r)))) (.c (.str (r.drop 4))):=eqvD_of (by rw [drop_min4])
   rcases part_three (G:=G) (r.take 4) oM oM with ⟨hg,ho0,ho1,c1⟩ | ⟨hg,c,hc,c1⟩
   ·rw [if_pos hg] at hst
    generalize outB (r.take 4)=o at hst ho0 ho1 c1
    have e3:BlkEqv (.row 5 1 (0+o.length) (catF 0 (fun _ _ => .nilif) (bytesF o))) (.row 5 1 (0+o.length) (bytesF o)):=BlkEqv.row_ext rfl fun i hi j hj=>rfl
    have hnx:d64F r (r.drop 4,some (0+o.length,o)):=⟨by omega,by omega,by omega,hst⟩
    clear hst hr
    refine zg [(3,{fm:=[(2,.c (.int .i64 ((min 4 r.length:Nat):Int)))]}),(4,{cs:=[(3,pc c1)],fm:=[(2,.c (.str (r.take 4)))]}),(7,{bs:=[(2,.row 5 1 (0+o.length) (bytesF o))],fm:=[(5,.c (.str (r.drop 4)))]})] [true,false] [(!r==[])=true,EqvI (.c (.int .i64 (if (r.length:Int)<(4:Int) then (r.length:Int) else (4:Int)))) (.c (.int .i64 (↑(min (4:Nat) r.length):Int))),EqvD (.c (.int .i64 (if (r.length:Int)<(4:Int) then (r.length:Int) else (4:Int)))) (.c (.int .i64 (↑(min (4:Nat) r.length):Int))),EqvI (.c (.str (List.drop (0:Nat) (List.take (Int.ofNat (min (4:Nat) r.length)).toNat r)))) (.c (.str (List.take (4:Nat) r))),EqvD (.c (.str (List.drop (0:Nat) (List.take (Int.ofNat (min (4:Nat) r.length)).toNat r)))) (.c (.str (List.take (4:Nat) r))),(0:Int)≤Int.ofNat (0)∧Int.ofNat (0)≤Int.ofNat (min (4:Nat) r.length)∧Int.ofNat (min (4:Nat) r.length)≤(r.length:Int),(!true)=false,(0+o.length)*1≤140737488355328,BlkEqv (.row 5 1 (0+o.length) (catF 0 (fun (x x_1:Nat) => .nilif) (bytesF o))) (.row 5 1 (0+o.length) (bytesF o)),EqvI (.c (.str (List.drop (Int.ofNat (min (4:Nat) r.length)).toNat (List.take (Int.ofNat r.length).toNat r)))) (.c (.str (List.drop (4:Nat) r))),EqvD (.c (.str (List.drop (Int.ofNat (min (4:Nat) r.length)).toNat (List.take (Int.ofNat r.length).toNat r)))) (.c (.str (List.drop (4:Nat) r))),(0:Int)≤Int.ofNat (min (4:Nat) r.length)∧Int.ofNat (min (4:Nat) r.length)≤Int.ofNat r.length∧Int.ofNat r.length≤(r.length:Int)] ⟨aS,fun _ _=>trivial,aS,fun _ _=>trivial,aS,⟨dC,⟨(by simp;done),sO⟩⟩,rfl,oM,aS,fun _ _=>trivial,aS,⟨(by simp;done),⟨sO,(by simp;done)⟩⟩⟩ ?_
    exact za [(40,352)] (again _ (r.drop 4,some (0+o.length,o)) aS (by simp only;omega))
   ·rw [if_neg hg] at hst
    rw [decR_none hst]
    clear hst hr hg
    refine zg [(3,{fm:=[(2,.c (.int .i64 ((min 4 r.length:Nat):Int)))]}),(4,{cs:=[(3,pc c1)],fm:=[(2,.c (.str (r.take 4)))]})] [true,true] [(!r==[])=true,EqvI (.c (.int .i64 (if (r.length:Int)<(4:Int) then (r.length:Int) else (4:Int)))) (.c (.int .i64 (↑(min (4:Nat) r.length):Int))),EqvD (.c (.int .i64 (if (r.length:Int)<(4:Int) then (r.length:Int) else (4:Int)))) (.c (.int .i64 (↑(min (4:Nat) r.length):Int))),EqvI (.c (.str (List.drop (0:Nat) (List.take (Int.ofNat (min (4:Nat) r.length)).toNat r)))) (.c (.str (List.take (4:Nat) r))),EqvD (.c (.str (List.drop (0:Nat) (List.take (Int.ofNat (min (4:Nat) r.length)).toNat r)))) (.c (.str (List.take (4:Nat) r))),(0:Int)≤Int.ofNat (0)∧Int.ofNat (0)≤Int.ofNat (min (4:Nat) r.length)∧Int.ofNat (min (4:Nat) r.length)≤(r.length:Int),(!false)=true] ⟨aS,fun _ _=>trivial,aS,fun _ _=>trivial,aS,⟨dC,⟨(by simp;done),sO⟩⟩,rfl⟩ ?_
    exact zr
 ·obtain ⟨hn,hn0,hnl,hq⟩:=hf
  by_cases hr:r=[]
  ·have ht:(!(r==[]))=false:=by rw [hr];rfl
   rw [hr,dec8_nil] at hq
   have hq:dec8 s=some l:=by rw [hq];simp
   rw [decR_some hq,slB_cons oM]
   clear hl hq
   refine zg [] [false] [(!r==[])=false] (oN aS) ?_
   refine Wp.ent' kR (Ent.pubT (t:=2) (e:=5) (sz:=(1:Nat)) (id:=40) (off:=(0:Nat)) (m:=n) (n:=n) (f:=bytesF l) (m':=l.length) (f':=bytesF l) kR kR oM aS (fun i _ j _=>by rw [Nat.zero_add]) rfl) ?_
   exact zr
  ·have ht:(!(r==[]))=true:=by simp [hr]
   have h0:0<r.length:=List.length_pos_iff.2 hr
   have hst:=dec8_step r h0
   have htl:(r.take 4).length=min 4 r.length:=List.length_take
   have hdl:(r.drop 4).length=r.length-4:=List.length_drop
   have e0:EqvD (.c (.int .i64 (if (r.length:Int)<4 then (r.length:Int) else 4))) (.c (.int .i64 ((min 4 r.length:Nat):Int))):=eqvD_of (by
    have:(if (r.length:Int)<4 then (r.length:Int) else 4)=((min 4 r.length:Nat):Int):=by split<;>omega
    rw [this])
   have e1:EqvD (.c (.str (List.drop 0 (List.take (min 4 r.length) r)))) (.c (.str (r.take 4))):=eqvD_of (by rw [take_min4])
   have e2:EqvD (.c (.str (List.drop (min 4 r.length) (List.take r.length r)))) (.c (.str (r.drop 4))):=eqvD_of (by rw [drop_min4])
   rcases part_three (G:=G) (r.take 4) oM oM with ⟨hg,ho0,ho1,c1⟩ | ⟨hg,c,hc,c1⟩
   ·rw [if_pos hg] at hst
    generalize outB (r.take 4)=o at hst ho0 ho1 c1
    have e3:BlkEqv (.row 5 1 (n+o.length) (catF n (bytesF l) (bytesF o))) (.row 5 1 (n+o.length) (bytesF (l++o))):=BlkEqv.row_ext rfl fun i hi j hj=>by rw [catF_bytes l o hn]
    have hnx:d64F s (r.drop 4,some (n+o.length,l++o)):=⟨by simp [hn],by omega,by omega,by rw [hq,hst];cases dec8 (r.drop 4)<;>simp⟩
    clear hst hr hq
    refine zg [(3,{fm:=[(2,.c (.int .i64 ((min 4 r.length:Nat):Int)))]}),(4,{cs:=[(3,pc c1)],fm:=[(2,.c (.str (r.take 4)))]}),(7,{bs:=[(2,.row 5 1 (n+o.length) (bytesF (l++o)))],fm:=[(5,.c (.str (r.drop 4)))]})] [true,false] [(!r==[])=true,EqvI (.c (.int .i64 (if (r.length:Int)<(4:Int) then (r.length:Int) else (4:Int)))) (.c (.int .i64 (↑(min (4:Nat) r.length):Int))),EqvD (.c (.int .i64 (if (r.length:Int)<(4:Int) then (r.length:Int) else (4:Int)))) (.c (.int .i64 (↑(min (4:Nat) r.length):Int))),EqvI (.c (.str (List.drop (0:Nat) (List.take (Int.ofNat (min (4:Nat) r.length)).toNat r)))) (.c (.str (List.take (4:Nat) r))),EqvD (.c (.str (List.drop (0:Nat) (List.take (Int.ofNat (min (4:Nat) r.length)).toNat r)))) (.c (.str (List.take (4:Nat) r))),(0:Int)≤Int.ofNat (0)∧Int.ofNat (0)≤Int.ofNat (min (4:Nat) r.length)∧Int.ofNat (min (4:Nat) r.length)≤(r.length:Int),(!true)=false,(n+o.length)*1≤140737488355328,BlkEqv (.row 5 1 (n+o.length) (catF n (bytesF l) (bytesF o))) (.row 5 1 (n+o.length) (bytesF (l++o))),n≤n,EqvI (.c (.str (List.drop (Int.ofNat (min (4:Nat) r.length)).toNat (List.take (Int.ofNat r.length).toNat r)))) (.c (.str (List.drop (4:Nat) r))),EqvD (.c (.str (List.drop (Int.ofNat (min (4:Nat) r.length)).toNat (List.take (Int.ofNat r.length).toNat r)))) (.c (.str (List.drop (4:Nat) r))),(0:Int)≤Int.ofNat (min (4:Nat) r.length)∧Int.ofNat (min (4:Nat) r.length)≤Int.ofNat r.length∧Int.ofNat r.length≤(r.length:Int)] ⟨aS,fun _ _=>trivial,aS,fun _ _=>trivial,aS,⟨dC,⟨(by simp;done),sO⟩⟩,rfl,oM,aS,oM,fun _ _=>trivial,aS,⟨(by simp;done),⟨sO,(by simp;done)⟩⟩⟩ ?_
    exact za [(40,352)] (again _ (r.drop 4,some (n+o.length,l++o)) aS (by simp only;omega))
   ·rw [if_neg hg] at hst
    have hq:dec8 s=none:=by rw [hq,hst];rfl
    rw [decR_none hq]
    clear hst hr hg hq
    refine zg [(3,{fm:=[(2,.c (.int .i64 ((min 4 r.length:Nat):Int)))]}),(4,{cs:=[(3,pc c1)],fm:=[(2,.c (.str (r.take 4)))]})] [true,true] [(!r==[])=true,EqvI (.c (.int .i64 (if (r.length:Int)<(4:Int) then (r.length:Int) else (4:Int)))) (.c (.int .i64 (↑(min (4:Nat) r.length):Int))),EqvD (.c (.int .i64 (if (r.length:Int)<(4:Int) then (r.length:Int) else (4:Int)))) (.c (.int .i64 (↑(min (4:Nat) r.length):Int))),EqvI (.c (.str (List.drop (0:Nat) (List.take (Int.ofNat (min (4:Nat) r.length)).toNat r)))) (.c (.str (List.take (4:Nat) r))),EqvD (.c (.str (List.drop (0:Nat) (List.take (Int.ofNat (min (4:Nat) r.length)).toNat r)))) (.c (.str (List.take (4:Nat) r))),(0:Int)≤Int.ofNat (0)∧Int.ofNat (0)≤Int.ofNat (min (4:Nat) r.length)∧Int.ofNat (min (4:Nat) r.length)≤(r.length:Int),(!false)=true] ⟨aS,fun _ _=>trivial,aS,fun _ _=>trivial,aS,⟨dC,⟨(by simp;done),sO⟩⟩,rfl⟩ ?_
    exact zr
def beN (b:List UInt8) (p:Nat):Nat→Int
 | 0=>0
 | i+1=>beN b p i*256+((b.getD (p+i) 0).toNat:Int)
theorem beN_rng (b:List UInt8) (p:Nat):∀ i,i≤4→0≤beN b p i∧beN b p i<256^i
 | 0,_=>⟨Int.le_refl 0,Int.zero_lt_one⟩
 | k+1,h=>by
  have:=beN_rng b p k oM
  have hc:=UInt8.toNat_lt (b.getD (p+k) 0)
  have hp:(256:Int)^(k+1)=256^k*256:=Int.pow_succ _ _
  unfold beN;rw [hp];omega
theorem beN_big (b:List UInt8) (p i:Nat) (h:i≤4):0≤beN b p i∧beN b p i<4294967296:=by
 have:=beN_rng b p i h
 have:i=0∨i=1∨i=2∨i=3∨i=4:=by omega
 rcases this with rfl | rfl | rfl | rfl | rfl<;>simp at *<;>omega
def rB (b:List UInt8) (p:Nat) (l e:Int):Blk := .box 165 [.sl 1 b.length (bytesF b),.int .i64 (p:Int),.int .i64 l,.int .i64 e]
theorem wrapU (c:UInt8):EqvD (.c (.int .i64 (IntKind.i64.wrap ((c.toNat:Nat):Int)))) (.c (.int .i64 (c.toNat:Int))):=eqvD_of (by rw [wrap_b])
theorem numR_ok (b:List UInt8) (p:Nat) (l:Int) (n:Nat) (hb:b.length≤30000000000000) (hn:n≤4) (hp:p+n≤b.length):FnB Tryz.prog G 140 [rB b p l 0] [.c (.ptr 0 0),.c (.int .i64 (n:Int))] [.c (.int .i64 (beN b p n))] [(0,rB b (p+n) l 0)]:=by
 refine zf Tryz.func140 ?_
 have ht0:(bif (0:Int)==0 then decide ((n:Int)>(b.length:Int)-(p:Int)) else false)=false:=by simp;omega
 refine zg [] [false] [((0:Int)==(0:Int))=true→inR .i64 ((b.length:Int)-(p:Int)),(bif (0:Int)==0 then decide ((n:Int)>(b.length:Int)-(p:Int)) else false)=false] ⟨fun _=>i6,ht0⟩ ?_
 refine zl (fun (k:Nat)=>⟨[(0,.v (.c (.ptr (0:Nat) (0:Nat)))),(1,.v (.c (.int .i64 (↑n:Int)))),(5,.v (.c (.int .i64 (beN b p k)))),(6,.v (.c (.int .i64 (k:Int))))],[(0,rB b p l 0)],353⟩) (fun k=>k≤n) (fun k=>n-k) 0 (Nat.zero_le _) ?_
 intro k L hk again
 have hr:=beN_big b p k oM
 rcases Nat.lt_or_ge k n with hlt | hge
 ·have ht1:(bif decide ((k:Int)<(n:Int)) then (0:Int)==0 else false)=true:=by rw [decide_eq_true oM];rfl
  have e1:=wrapU (b.getD (p+k) 0)
  have hc:=UInt8.toNat_lt (b.getD (p+k) 0)
  have hr2:=beN_big b p (k+1) oM
  rw [beN] at hr2
  refine zg [(7,{fm:=[(11,.c (.int .i64 ((p+k:Nat):Int))),(14,.c (.int .i64 ((b.getD (p+k) 0).toNat:Int)))]})] [true] [(bif decide ((k:Int)<(n:Int)) then (0:Int)==(0:Int) else false)=true,inR .i64 (beN b p k*256),EqvI (.c (.int .i64 ((p:Int)+(k:Int)))) (.c (.int .i64 (↑(p+k):Int))),EqvD (.c (.int .i64 ((p:Int)+(k:Int)))) (.c (.int .i64 (↑(p+k):Int))),inR .i64 ((p:Int)+(k:Int)),(0:Int)≤(↑(p+k):Int)∧(↑(p+k):Int)<(b.length:Int),EqvI (.c (.int .i64 (IntKind.i64.wrap (↑(b.getD (p+k) (0:UInt8)).toNat:Int)))) (.c (.int .i64 (↑(b.getD (p+k) (0:UInt8)).toNat:Int))),EqvD (.c (.int .i64 (IntKind.i64.wrap (↑(b.getD (p+k) (0:UInt8)).toNat:Int)))) (.c (.int .i64 (↑(b.getD (p+k) (0:UInt8)).toNat:Int))),inR .i64 (beN b p k*(256:Int)+(↑(b.getD (p+k) (0:UInt8)).toNat:Int)),inR .i64 ((k:Int)+1)] ⟨aS,i6,fun _ _=>trivial,fun _ _ _ h=>h,i6,oM,fun _ _=>trivial,aS,i6,i6⟩ ?_
  exact za [] (again _ (k+1) aS oM)
 ·obtain rfl:k=n:=by omega
  have ht1:(bif decide ((k:Int)<(k:Int)) then (0:Int)==0 else false)=false:=by rw [decide_eq_false oM];rfl
  refine zg [] [false] [(bif decide ((k:Int)<(k:Int)) then (0:Int)==(0:Int) else false)=false,inR .i64 ((p:Int)+(k:Int))] ⟨aS,i6⟩ ?_
  exact zb []
theorem numR_short (b:List UInt8) (p:Nat) (l:Int) (n:Nat) (hb:b.length≤30000000000000) (hn:n≤4) (h1:0<n) (hpl:p≤b.length) (hp:b.length<p+n):FnB Tryz.prog G 140 [rB b p l 0] [.c (.ptr 0 0),.c (.int .i64 (n:Int))] [.c (.int .i64 0)] [(0,rB b (p+n) l 1)]:=by
 refine zf Tryz.func140 ?_
 have ht0:(bif (0:Int)==0 then decide ((n:Int)>(b.length:Int)-(p:Int)) else false)=true:=by simp;omega
 refine zg [] [true] [((0:Int)==(0:Int))=true→inR .i64 ((b.length:Int)-(p:Int)),(bif (0:Int)==0 then decide ((n:Int)>(b.length:Int)-(p:Int)) else false)=true] ⟨fun _=>i6,ht0⟩ ?_
 have ht1:(bif decide ((0:Int)<(n:Int)) then (1:Int)==0 else false)=false:=by rw [decide_eq_true oM];rfl
 refine zl (fun (k:Nat)=>⟨[(0,.v (.c (.ptr (0:Nat) (0:Nat)))),(1,.v (.c (.int .i64 (↑n:Int)))),(5,.v (.c (.int .i64 0))),(6,.v (.c (.int .i64 0)))],[(0,rB b p l 1)],500⟩) (fun k=>True) (fun k=>k) 0 trivial ?_
 intro k L _ again
 refine zg [] [false] [(bif decide ((0:Int)<(n:Int)) then (1:Int)==(0:Int) else false)=false,inR .i64 ((p:Int)+(n:Int))] ⟨aS,i6⟩ ?_
 exact zb []
end Go.Proofs.Tw
end
