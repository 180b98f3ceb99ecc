/- Own texts for this claim: Rt, Ro, Rk, Rm, Rr, Cr, Ca, Ct, Cd, Ce, Cf, Cg, Pk, Sto, Kn, Mh, SvLit, Pu1. -/
import Derived.Test.YtjccbeodlcjidaaGreatDoorIssueFullCardP3
import Derived.Test.YtjccbeodlcjidaaGreatDoorIssueFullCardP5
set_option linter.all false
section
open Go Go.Sv Go.RowKit
namespace Go.Proofs.Tw
attribute [local irreducible] Wp FinQ resV Ent Pur Go.Sv.Fn Sat0
set_option maxRecDepth 100000
set_option maxHeartbeats 4000000
variable {G:Nat→Option (List Cell)}
inductive Tm
 | at_ (s:List UInt8)
 | no (n:Nat)
 | one (k:Int) (t:Tm)
 | two (k:Int) (a b:Tm)
structure KT where
 k:Int
 n:Int
 s:List UInt8
 m:Nat
 f:Nat→Nat→Cell
def encK (x:KT):List Cell:=[.int .i64 x.k,.int .i64 x.n,.str x.s,.sl 4 x.m x.f]
def KT.nil:KT:=⟨0,0,[],0,fun _ _ => .nilif⟩
def toK:Tm→KT
 | .at_ s=>⟨1,0,s,0,fun _ _ => .nilif⟩
 | .no n=>⟨2,(n:Int),[],0,fun _ _ => .nilif⟩
 | .one k t=>⟨k,0,[],1,rowF encK .nil [toK t]⟩
 | .two k a b=>⟨k,0,[],2,rowF encK .nil [toK a,toK b]⟩
def rdT (b:List UInt8):Nat→Nat→Nat→Option (Tm×Nat×Nat)
 | 0,_,_=>none
 | f+1,p,left=>if left=0 then none else if b.length≤p then none else
   if (b.getD p 0).toNat=1 then (if b.length<p+1+2 then none else if 1024<(beN b (p+1) 2).toNat then none else if b.length<p+1+2+(beN b (p+1) 2).toNat then none
    else some (.at_ ((b.drop (p+1+2)).take (beN b (p+1) 2).toNat),p+1+2+(beN b (p+1) 2).toNat,left-1))
   else if (b.getD p 0).toNat=2 then (if b.length<p+1+4 then none else if 1073741824<(beN b (p+1) 4).toNat then none else some (.no (beN b (p+1) 4).toNat,p+1+4,left-1))
   else if (b.getD p 0).toNat=3∨(b.getD p 0).toNat=4 then (match rdT b f (p+1) (left-1) with
    | none=>none
    | some (t,p1,l1)=>some (.one ((b.getD p 0).toNat:Int) t,p1,l1))
   else if (b.getD p 0).toNat=5∨(b.getD p 0).toNat=6∨(b.getD p 0).toNat=7 then (match rdT b f (p+1) (left-1) with
    | none=>none
    | some (t,p1,l1)=>match rdT b f p1 l1 with
     | none=>none
     | some (u,p2,l2)=>some (.two ((b.getD p 0).toNat:Int) t u,p2,l2))
   else none
theorem rdT_le (b:List UInt8):∀ f p left t p' l',rdT b f p left=some (t,p',l')→p'≤b.length∧l'≤left
 | 0,_,_,_,_,_,h=>by simp [rdT] at h
 | f+1,p,left,t,p',l',h=>by
  unfold rdT at h
  split at h;· cases h
  split at h;· cases h
  split at h
  ·split at h;· cases h
   split at h;· cases h
   split at h;· cases h
   simp only [Option.some.injEq,Prod.mk.injEq] at h
   omega
  split at h
  ·split at h;· cases h
   split at h;· cases h
   simp only [Option.some.injEq,Prod.mk.injEq] at h
   omega
  split at h
  ·split at h
   ·cases h
   ·rename_i t1 p1 l1 h1
    have:=rdT_le b f _ _ _ _ _ h1
    simp only [Option.some.injEq,Prod.mk.injEq] at h
    omega
  split at h
  ·split at h
   ·cases h
   ·rename_i t1 p1 l1 h1
    have:=rdT_le b f _ _ _ _ _ h1
    split at h
    ·cases h
    ·rename_i t2 p2 l2 h2
     have:=rdT_le b f _ _ _ _ _ h2
     simp only [Option.some.injEq,Prod.mk.injEq] at h
     omega
  ·cases h
def rdOut (r:Option (Tm×Nat×Nat)) (x:KT) (p':Nat) (l' e:Int):Prop:=match r with
 | some (t,p2,l2)=>x=toK t∧p'=p2∧l'=(l2:Int)∧e=0
 | none=>e≠0
theorem kids_D {k n:Int} {s:List UInt8} {f:Nat→Nat→Cell}:EqvD (.agg [.int .i64 k,.int .i64 n,.str s,.nilsl]) (.agg [.int .i64 k,.int .i64 n,.str s,.sl 4 0 f]):=by
 rintro D ρ u ⟨us,e,hs,h⟩
 refine ⟨us,e,hs,fun j x hj => ?_⟩
 have:j=0∨j=1∨j=2∨j=3∨4≤j:=by omega
 rcases this with rfl | rfl | rfl | rfl | h4
 ·exact h 0 x hj
 ·exact h 1 x hj
 ·exact h 2 x hj
 ·obtain ⟨y,hy,hd⟩:=h 3 _ rfl
  simp only [List.getElem?_cons_succ,List.getElem?_cons_zero,Option.some.injEq] at hj
  subst hj
  exact ⟨y,hy,none,0,hd,Nat.le_refl _,Nat.zero_le _,.inl ⟨rfl,rfl⟩⟩
 ·rw [List.getElem?_eq_none (by simpa using h4)] at hj;cases hj
theorem kids_I {k n:Int} {s:List UInt8} {f:Nat→Nat→Cell}:EqvI (.agg [.int .i64 k,.int .i64 n,.str s,.nilsl]) (.agg [.int .i64 k,.int .i64 n,.str s,.sl 4 0 f]):=by
 rintro S h j x hj
 have:j=0∨j=1∨j=2∨j=3∨4≤j:=by omega
 rcases this with rfl | rfl | rfl | rfl | h4
 ·exact h 0 x hj
 ·exact h 1 x hj
 ·exact h 2 x hj
 ·simp only [List.getElem?_cons_succ,List.getElem?_cons_zero,Option.some.injEq] at hj
  subst hj;trivial
 ·rw [List.getElem?_eq_none (by simpa using h4)] at hj;cases hj
theorem num1 (b:List UInt8) (p:Nat) (l:Int) (hb:b.length≤30000000000000) (hp:p<b.length) {k:Nat} (hk:(b.getD p 0).toNat=k):FnB Tryz.prog G 140 [rB b p l 0] [.c (.ptr 0 0),.c (.int .i64 1)] [.c (.int .i64 (k:Int))] [(0,rB b (p+1) l 0)]:=by
 have:=numR_ok (G:=G) b p l 1 hb dC hp
 rw [show beN b p 1=(k:Int) by rw [← hk];simp [beN]] at this
 exact this
theorem numN (b:List UInt8) (p:Nat) (l:Int) (n:Nat) (hb:b.length≤30000000000000) (hn:n≤4) (hp:p+n≤b.length):FnB Tryz.prog G 140 [rB b p l 0] [.c (.ptr 0 0),.c (.int .i64 (n:Int))] [.c (.int .i64 ((beN b p n).toNat:Int))] [(0,rB b (p+n) l 0)]:=by
 have:=numR_ok (G:=G) b p l n hb hn hp
 rw [show beN b p n=((beN b p n).toNat:Int) by have:=beN_big b p n hn;omega] at this
 exact this
theorem node_deep (b:List UInt8) (f p l:Nat) (hf:f≤16) (hl2:l≤64) (h0:f=0∨l=0):FnB Tryz.prog G 132 [rB b p l 0] [.c (.ptr 0 0),.c (.int .i64 (17-(f:Int)))] [.agg (encK ⟨0,0,[],0,fun _ _ => .nilif⟩)] [(0,rB b p l 4)]:=by
 refine zf Tryz.func132 ?_
 have ht0:(bif (0:Int)==0 then bif decide ((l:Int)<1) then true else decide (17-(f:Int)>16) else false)=true:=by
  rcases h0 with rfl | rfl
  ·cases decide ((l:Int)<1)<;>rfl
  ·rfl
 have eD:=@kids_D 0 0 [] (fun _ _ => .nilif)
 have eI:=@kids_I 0 0 [] (fun _ _ => .nilif)
 refine zg [(5,{fm:=[(0,.agg [.int .i64 0,.int .i64 0,.str [],.sl 4 0 (fun _ _ => .nilif)])]})] [true,true] [(bif (0:Int)==(0:Int) then bif decide ((l:Int)<(1:Int)) then true else decide ((17:Int)-(f:Int)>(16:Int)) else false)=true,((4:Int) != (0:Int))=true,EqvI (.agg [.int .i64 0,.int .i64 0,.str [],.nilsl]) (.agg [.int .i64 0,.int .i64 0,.str [],.sl 4 0 fun (x x_1:Nat) => .nilif]),EqvD (.agg [.int .i64 0,.int .i64 0,.str [],.nilsl]) (.agg [.int .i64 0,.int .i64 0,.str [],.sl 4 0 fun (x x_1:Nat) => .nilif])] ⟨aS,rfl,eqvI_flat _ _ kR,(show EqvD (.agg [.int .i64 (0:Int),.int .i64 (0:Int),.str [],.nilsl]) (.agg [.int .i64 (0:Int),.int .i64 (0:Int),.str [],.sl (4:Nat) (0:Nat) fun (x x_1:Nat) => .nilif]) from aS)⟩ ?_
 exact zb []
theorem node_short (b:List UInt8) (hb:b.length≤30000000000000) (f p l:Nat) (hf:f<16) (hl:0<l) (hl2:l≤64) (hp:p=b.length):FnB Tryz.prog G 132 [rB b p l 0] [.c (.ptr 0 0),.c (.int .i64 (17-((f+1:Nat):Int)))] [.agg (encK ⟨0,0,[],0,fun _ _ => .nilif⟩)] [(0,rB b (p+1) ((l:Int)-1) 1)]:=by
 refine zf Tryz.func132 ?_
 have ht0:(bif (0:Int)==0 then bif decide ((l:Int)<1) then true else decide (17-((f+1:Nat):Int)>16) else false)=false:=by rw [decide_eq_false oM,decide_eq_false oM];rfl
 have c1:=numR_short (G:=G) b p ((l:Int)-1) 1 hb dC dC oM oM
 have eD:=@kids_D 0 0 [] (fun _ _ => .nilif)
 have eI:=@kids_I 0 0 [] (fun _ _ => .nilif)
 refine zg [(36,{fm:=[(0,.agg [.int .i64 0,.int .i64 0,.str [],.sl 4 0 (fun _ _ => .nilif)])]}),(7,{cs:=[(1,cb [0] c1)]})] [false,false,false,false,false,false,false,false,false,false] [(bif (0:Int)==(0:Int) then bif decide ((l:Int)<(1:Int)) then true else decide ((17:Int)-(↑(f+(1:Nat)):Int)>(16:Int)) else false)=false,((0:Int) != (0:Int))=false,inR .i64 ((l:Int)-1),((0:Int)==(1:Int))=false,((0:Int)==(2:Int))=false,((0:Int)==(3:Int))=false,((0:Int)==(4:Int))=false,((0:Int)==(5:Int))=false,((0:Int)==(6:Int))=false,((0:Int)==(7:Int))=false,((1:Int)==(0:Int))=false] ⟨aS,rfl,i6,rfl,rfl,rfl,rfl,rfl,rfl,rfl,rfl⟩ ?_
 refine zl (fun (k:Nat)=>⟨[(0,.v (.c (.ptr (0:Nat) (0:Nat)))),(1,.v (.c (.int .i64 ((17:Int)-(↑(f+(1:Nat)):Int))))),(4,.v (.c (.ptr 1 (0:Nat)))),(5,.v (.c (.ptr (289:Nat) (0:Nat)))),(6,.v (.c (.int .i64 (0:Int)))),(8,.v (.c (.int .i64 (0:Int))))],[(1,.box 101 [.int .i64 (0:Int),.int .i64 (0:Int),.str [],.nilsl]),(289,.box 101 [.int .i64 (0:Int),.int .i64 (0:Int),.str [],.nilsl]),(0,.box 165 [.sl (1:Nat) b.length (bytesF b),.int .i64 (↑(p+(1:Nat)):Int),.int .i64 ((↑l:Int)-(1:Int)),.int .i64 (1:Int)])],961⟩) (fun _=>True) (fun k=>k) 0 trivial ?_ [(1,1),(289,289)]
 intro k L hk again
 refine zg [(36,{fm:=[(0,.agg [.int .i64 0,.int .i64 0,.str [],.sl 4 0 (fun _ _ => .nilif)])]})] [false] [(bif decide ((0:Int)<(0:Int)) then (1:Int)==(0:Int) else false)=false,EqvI (.agg [.int .i64 0,.int .i64 0,.str [],.nilsl]) (.agg [.int .i64 0,.int .i64 0,.str [],.sl 4 0 fun (x x_1:Nat) => .nilif]),EqvD (.agg [.int .i64 0,.int .i64 0,.str [],.nilsl]) (.agg [.int .i64 0,.int .i64 0,.str [],.sl 4 0 fun (x x_1:Nat) => .nilif])] ⟨rfl,eqvI_flat _ _ kR,(show EqvD (.agg [.int .i64 (0:Int),.int .i64 (0:Int),.str [],.nilsl]) (.agg [.int .i64 (0:Int),.int .i64 (0:Int),.str [],.sl (4:Nat) (0:Nat) fun (x x_1:Nat) => .nilif]) from aS)⟩ ?_
 exact zb []
theorem node_a1 (b:List UInt8) (hb:b.length≤30000000000000) (f p l:Nat) (hf:f<16) (hl:0<l) (hl2:l≤64) (hp:p<b.length) (hk:(b.getD p 0).toNat=1) (h2:b.length<p+1+2):FnB Tryz.prog G 132 [rB b p l 0] [.c (.ptr 0 0),.c (.int .i64 (17-((f+1:Nat):Int)))] [.agg (encK ⟨1,0,[],0,fun _ _ => .nilif⟩)] [(0,rB b (p+1+2) ((l:Int)-1) 1)]:=by
 refine zf Tryz.func132 ?_
 have ht0:(bif (0:Int)==0 then bif decide ((l:Int)<1) then true else decide (17-((f+1:Nat):Int)>16) else false)=false:=by rw [decide_eq_false oM,decide_eq_false oM];rfl
 have c1:=num1 (G:=G) b p ((l:Int)-1) hb hp hk
 have c2:=numR_short (G:=G) b (p+1) ((l:Int)-1) 2 hb dC dC oM h2
 have eD:=@kids_D 1 0 [] (fun _ _ => .nilif)
 have eI:=@kids_I 1 0 [] (fun _ _ => .nilif)
 refine zg [(36,{fm:=[(0,.agg [.int .i64 1,.int .i64 0,.str [],.sl 4 0 (fun _ _ => .nilif)])]}),(7,{cs:=[(1,cb [0] c1)]}),(13,{cs:=[(1,cb [0] c2)]})] [false,false,true,false,false,false] [(bif (0:Int)==(0:Int) then bif decide ((l:Int)<(1:Int)) then true else decide ((17:Int)-(↑(f+(1:Nat)):Int)>(16:Int)) else false)=false,((0:Int) != (0:Int))=false,inR .i64 ((l:Int)-1),((↑(1:Nat):Int)==(1:Int))=true,(bif (1:Int)==(0:Int) then decide ((0:Int)>(1024:Int)) else false)=false,((1:Int)==(0:Int))=true→inR .i64 ((b.length:Int)-(↑(p+(1:Nat)+(2:Nat)):Int)),(bif (1:Int)==(0:Int) then decide ((0:Int)>(b.length:Int)-(↑(p+(1:Nat)+(2:Nat)):Int)) else false)=false,((1:Int)==(0:Int))=false] ⟨aS,rfl,i6,rfl,rfl,(fun _=>i6),rfl,rfl⟩ ?_
 refine zl (fun (k:Nat)=>⟨[(0,.v (.c (.ptr (0:Nat) (0:Nat)))),(1,.v (.c (.int .i64 ((17:Int)-(↑(f+(1:Nat)):Int))))),(4,.v (.c (.ptr 1 (0:Nat)))),(5,.v (.c (.ptr (289:Nat) (0:Nat)))),(6,.v (.c (.int .i64 (0:Int)))),(8,.v (.c (.int .i64 (0:Int))))],[(1,.box 101 [.int .i64 (0:Int),.int .i64 (0:Int),.str [],.nilsl]),(289,.box 101 [.int .i64 (↑(1:Nat):Int),.int .i64 (0:Int),.str [],.nilsl]),(0,.box 165 [.sl (1:Nat) b.length (bytesF b),.int .i64 (↑(p+(1:Nat)+(2:Nat)):Int),.int .i64 ((↑l:Int)-(1:Int)),.int .i64 (1:Int)])],1265⟩) (fun _=>True) (fun k=>k) 0 trivial ?_ [(1,1),(289,289)]
 intro k L hk again
 refine zg [(36,{fm:=[(0,.agg [.int .i64 1,.int .i64 0,.str [],.sl 4 0 (fun _ _ => .nilif)])]})] [false] [(bif decide ((0:Int)<(0:Int)) then (1:Int)==(0:Int) else false)=false,EqvI (.agg [.int .i64 (↑(1:Nat):Int),.int .i64 0,.str [],.nilsl]) (.agg [.int .i64 1,.int .i64 0,.str [],.sl 4 (0:Nat) fun (x x_1:Nat) => .nilif]),EqvD (.agg [.int .i64 (↑(1:Nat):Int),.int .i64 0,.str [],.nilsl]) (.agg [.int .i64 1,.int .i64 0,.str [],.sl 4 (0:Nat) fun (x x_1:Nat) => .nilif])] ⟨rfl,eqvI_flat _ _ kR,(show EqvD (.agg [.int .i64 (↑(1:Nat):Int),.int .i64 (0:Int),.str [],.nilsl]) (.agg [.int .i64 (1:Int),.int .i64 (0:Int),.str [],.sl (4:Nat) (0:Nat) fun (x x_1:Nat) => .nilif]) from aS)⟩ ?_
 exact zb []
theorem node_a2 (b:List UInt8) (hb:b.length≤30000000000000) (f p l:Nat) (hf:f<16) (hl:0<l) (hl2:l≤64) (hp:p<b.length) (hk:(b.getD p 0).toNat=1) (h2:p+1+2≤b.length) {n:Nat} (hn:(beN b (p+1) 2).toNat=n) (h3:1024<n):FnB Tryz.prog G 132 [rB b p l 0] [.c (.ptr 0 0),.c (.int .i64 (17-((f+1:Nat):Int)))] [.agg (encK ⟨1,0,[],0,fun _ _ => .nilif⟩)] [(0,rB b (p+1+2) ((l:Int)-1) 3)]:=by
 refine zf Tryz.func132 ?_
 have ht0:(bif (0:Int)==0 then bif decide ((l:Int)<1) then true else decide (17-((f+1:Nat):Int)>16) else false)=false:=by rw [decide_eq_false oM,decide_eq_false oM];rfl
 have c1:=num1 (G:=G) b p ((l:Int)-1) hb hp hk
 have c2:=numN (G:=G) b (p+1) ((l:Int)-1) 2 hb dC h2
 rw [hn] at c2
 have ht1:(bif (0:Int)==0 then decide ((n:Int)>1024) else false)=true:=by rw [decide_eq_true oM];rfl
 have eD:=@kids_D 1 0 [] (fun _ _ => .nilif)
 have eI:=@kids_I 1 0 [] (fun _ _ => .nilif)
 refine zg [(36,{fm:=[(0,.agg [.int .i64 1,.int .i64 0,.str [],.sl 4 0 (fun _ _ => .nilif)])]}),(7,{cs:=[(1,cb [0] c1)]}),(13,{cs:=[(1,cb [0] c2)]})] [false,false,true,true,false,false] [(bif (0:Int)==(0:Int) then bif decide ((l:Int)<(1:Int)) then true else decide ((17:Int)-(↑(f+(1:Nat)):Int)>(16:Int)) else false)=false,((0:Int) != (0:Int))=false,inR .i64 ((l:Int)-1),((↑(1:Nat):Int)==(1:Int))=true,(bif (0:Int)==(0:Int) then decide ((n:Int)>(1024:Int)) else false)=true,((3:Int)==(0:Int))=true→inR .i64 ((b.length:Int)-(↑(p+(1:Nat)+(2:Nat)):Int)),(bif (3:Int)==(0:Int) then decide ((n:Int)>(b.length:Int)-(↑(p+(1:Nat)+(2:Nat)):Int)) else false)=false,((3:Int)==(0:Int))=false] ⟨aS,rfl,i6,rfl,aS,(fun _=>i6),rfl,rfl⟩ ?_
 refine zl (fun (k:Nat)=>⟨[(0,.v (.c (.ptr (0:Nat) (0:Nat)))),(1,.v (.c (.int .i64 ((17:Int)-(↑(f+(1:Nat)):Int))))),(4,.v (.c (.ptr 1 (0:Nat)))),(5,.v (.c (.ptr (289:Nat) (0:Nat)))),(6,.v (.c (.int .i64 (0:Int)))),(8,.v (.c (.int .i64 (0:Int))))],[(1,.box 101 [.int .i64 (0:Int),.int .i64 (0:Int),.str [],.nilsl]),(289,.box 101 [.int .i64 (↑(1:Nat):Int),.int .i64 (0:Int),.str [],.nilsl]),(0,.box 165 [.sl (1:Nat) b.length (bytesF b),.int .i64 (↑(p+(1:Nat)+(2:Nat)):Int),.int .i64 ((↑l:Int)-(1:Int)),.int .i64 (3:Int)])],1329⟩) (fun _=>True) (fun k=>k) 0 trivial ?_ [(1,1),(289,289)]
 intro k L hk again
 refine zg [(36,{fm:=[(0,.agg [.int .i64 1,.int .i64 0,.str [],.sl 4 0 (fun _ _ => .nilif)])]})] [false] [(bif decide ((0:Int)<(0:Int)) then (3:Int)==(0:Int) else false)=false,EqvI (.agg [.int .i64 (↑(1:Nat):Int),.int .i64 0,.str [],.nilsl]) (.agg [.int .i64 1,.int .i64 0,.str [],.sl 4 (0:Nat) fun (x x_1:Nat) => .nilif]),EqvD (.agg [.int .i64 (↑(1:Nat):Int),.int .i64 0,.str [],.nilsl]) (.agg [.int .i64 1,.int .i64 0,.str [],.sl 4 (0:Nat) fun (x x_1:Nat) => .nilif])] ⟨rfl,eqvI_flat _ _ kR,(show EqvD (.agg [.int .i64 (↑(1:Nat):Int),.int .i64 (0:Int),.str [],.nilsl]) (.agg [.int .i64 (1:Int),.int .i64 (0:Int),.str [],.sl (4:Nat) (0:Nat) fun (x x_1:Nat) => .nilif]) from aS)⟩ ?_
 exact zb []
theorem node_a3 (b:List UInt8) (hb:b.length≤30000000000000) (f p l:Nat) (hf:f<16) (hl:0<l) (hl2:l≤64) (hp:p<b.length) (hk:(b.getD p 0).toNat=1) (h2:p+1+2≤b.length) {n:Nat} (hn:(beN b (p+1) 2).toNat=n) (h3:n≤1024) (h4:b.length<p+1+2+n):FnB Tryz.prog G 132 [rB b p l 0] [.c (.ptr 0 0),.c (.int .i64 (17-((f+1:Nat):Int)))] [.agg (encK ⟨1,0,[],0,fun _ _ => .nilif⟩)] [(0,rB b (p+1+2) ((l:Int)-1) 1)]:=by
 refine zf Tryz.func132 ?_
 have ht0:(bif (0:Int)==0 then bif decide ((l:Int)<1) then true else decide (17-((f+1:Nat):Int)>16) else false)=false:=by rw [decide_eq_false oM,decide_eq_false oM];rfl
 have c1:=num1 (G:=G) b p ((l:Int)-1) hb hp hk
 have c2:=numN (G:=G) b (p+1) ((l:Int)-1) 2 hb dC h2
 rw [hn] at c2
 have ht1:(bif (0:Int)==0 then decide ((n:Int)>1024) else false)=false:=by rw [decide_eq_false oM];rfl
 have ht2:(bif (0:Int)==0 then decide ((n:Int)>(b.length:Int)-((p+1+2:Nat):Int)) else false)=true:=by rw [decide_eq_true oM];rfl
 have eD:=@kids_D 1 0 [] (fun _ _ => .nilif)
 have eI:=@kids_I 1 0 [] (fun _ _ => .nilif)
 refine zg [(36,{fm:=[(0,.agg [.int .i64 1,.int .i64 0,.str [],.sl 4 0 (fun _ _ => .nilif)])]}),(7,{cs:=[(1,cb [0] c1)]}),(13,{cs:=[(1,cb [0] c2)]})] [false,false,true,false,true,false] [(bif (0:Int)==(0:Int) then bif decide ((l:Int)<(1:Int)) then true else decide ((17:Int)-(↑(f+(1:Nat)):Int)>(16:Int)) else false)=false,((0:Int) != (0:Int))=false,inR .i64 ((l:Int)-1),((↑(1:Nat):Int)==(1:Int))=true,(bif (0:Int)==(0:Int) then decide ((n:Int)>(1024:Int)) else false)=false,((0:Int)==(0:Int))=true→inR .i64 ((b.length:Int)-(↑(p+(1:Nat)+(2:Nat)):Int)),(bif (0:Int)==(0:Int) then decide ((n:Int)>(b.length:Int)-(↑(p+(1:Nat)+(2:Nat)):Int)) else false)=true,((1:Int)==(0:Int))=false] ⟨aS,rfl,i6,rfl,aS,(fun _=>i6),aS,rfl⟩ ?_
 refine zl (fun (k:Nat)=>⟨[(0,.v (.c (.ptr (0:Nat) (0:Nat)))),(1,.v (.c (.int .i64 ((17:Int)-(↑(f+(1:Nat)):Int))))),(4,.v (.c (.ptr 1 (0:Nat)))),(5,.v (.c (.ptr (289:Nat) (0:Nat)))),(6,.v (.c (.int .i64 (0:Int)))),(8,.v (.c (.int .i64 (0:Int))))],[(1,.box 101 [.int .i64 (0:Int),.int .i64 (0:Int),.str [],.nilsl]),(289,.box 101 [.int .i64 (↑(1:Nat):Int),.int .i64 (0:Int),.str [],.nilsl]),(0,.box 165 [.sl (1:Nat) b.length (bytesF b),.int .i64 (↑(p+(1:Nat)+(2:Nat)):Int),.int .i64 ((↑l:Int)-(1:Int)),.int .i64 (1:Int)])],1329⟩) (fun _=>True) (fun k=>k) 0 trivial ?_ [(1,1),(289,289)]
 intro k L hk again
 refine zg [(36,{fm:=[(0,.agg [.int .i64 1,.int .i64 0,.str [],.sl 4 0 (fun _ _ => .nilif)])]})] [false] [(bif decide ((0:Int)<(0:Int)) then (1:Int)==(0:Int) else false)=false,EqvI (.agg [.int .i64 (↑(1:Nat):Int),.int .i64 0,.str [],.nilsl]) (.agg [.int .i64 1,.int .i64 0,.str [],.sl 4 (0:Nat) fun (x x_1:Nat) => .nilif]),EqvD (.agg [.int .i64 (↑(1:Nat):Int),.int .i64 0,.str [],.nilsl]) (.agg [.int .i64 1,.int .i64 0,.str [],.sl 4 (0:Nat) fun (x x_1:Nat) => .nilif])] ⟨rfl,eqvI_flat _ _ kR,(show EqvD (.agg [.int .i64 (↑(1:Nat):Int),.int .i64 (0:Int),.str [],.nilsl]) (.agg [.int .i64 (1:Int),.int .i64 (0:Int),.str [],.sl (4:Nat) (0:Nat) fun (x x_1:Nat) => .nilif]) from aS)⟩ ?_
 exact zb []
theorem node_a4 (b:List UInt8) (hb:b.length≤30000000000000) (f p l:Nat) (hf:f<16) (hl:0<l) (hl2:l≤64) (hp:p<b.length) (hk:(b.getD p 0).toNat=1) (h2:p+1+2≤b.length) {n:Nat} (hn:(beN b (p+1) 2).toNat=n) (h3:n≤1024) (h4:p+1+2+n≤b.length):FnB Tryz.prog G 132 [rB b p l 0] [.c (.ptr 0 0),.c (.int .i64 (17-((f+1:Nat):Int)))] [.agg (encK ⟨1,0,((b.drop (p+1+2)).take n),0,fun _ _ => .nilif⟩)] [(0,rB b (p+1+2+n) ((l:Int)-1) 0)]:=by
 refine zf Tryz.func132 ?_
 have ht0:(bif (0:Int)==0 then bif decide ((l:Int)<1) then true else decide (17-((f+1:Nat):Int)>16) else false)=false:=by rw [decide_eq_false oM,decide_eq_false oM];rfl
 have c1:=num1 (G:=G) b p ((l:Int)-1) hb hp hk
 have c2:=numN (G:=G) b (p+1) ((l:Int)-1) 2 hb dC h2
 rw [hn] at c2
 have ht1:(bif (0:Int)==0 then decide ((n:Int)>1024) else false)=false:=by rw [decide_eq_false oM];rfl
 have ht2:(bif (0:Int)==0 then decide ((n:Int)>(b.length:Int)-((p+1+2:Nat):Int)) else false)=false:=by rw [decide_eq_false oM];rfl
 have hbl:n=((b.drop (p+1+2)).take n).length:=by rw [List.length_take,List.length_drop];omega
 have e3:EqvD (.c (.sl 1 ((((p+1+2:Nat):Int)+(n:Int)).toNat-(((p+1+2:Nat):Int)).toNat) (fun i j=>bytesF b ((((p+1+2:Nat):Int)).toNat+i) j))) (.c (.sl 1 n (bytesF ((b.drop (p+1+2)).take n)))):=EqvD.sl oM (fun i hi j hj=>by
  show Cell.int .u8 _=Cell.int .u8 _
  have hi2:i<n:=by omega
  rw [List.getD_eq_getElem?_getD,List.getD_eq_getElem?_getD,List.getElem?_take,if_pos hi2,List.getElem?_drop];rfl)
 have e4:=areBytes_F ((b.drop (p+1+2)).take n) 0 n
 have e5:EqvD (.c (.str (byteL (bytesF ((b.drop (p+1+2)).take n)) 0 n))) (.c (.str ((b.drop (p+1+2)).take n))):=eqvD_of (by rw [byteL_F _ hbl])
 have eD:=@kids_D 1 0 ((b.drop (p+1+2)).take n) (fun _ _ => .nilif)
 have eI:=@kids_I 1 0 ((b.drop (p+1+2)).take n) (fun _ _ => .nilif)
 refine zg [(19,{fm:=[(14,.c (.sl 1 n (bytesF ((b.drop (p+1+2)).take n)))),(15,.c (.str ((b.drop (p+1+2)).take n)))]}),(36,{fm:=[(0,.agg [.int .i64 1,.int .i64 0,.str ((b.drop (p+1+2)).take n),.sl 4 0 (fun _ _ => .nilif)])]}),(7,{cs:=[(1,cb [0] c1)]}),(13,{cs:=[(1,cb [0] c2)]})] [false,false,true,false,false,true] [(bif (0:Int)==(0:Int) then bif decide ((l:Int)<(1:Int)) then true else decide ((17:Int)-(↑(f+(1:Nat)):Int)>(16:Int)) else false)=false,((0:Int) != (0:Int))=false,inR .i64 ((l:Int)-1),((↑(1:Nat):Int)==(1:Int))=true,(bif (0:Int)==(0:Int) then decide ((n:Int)>(1024:Int)) else false)=false,((0:Int)==(0:Int))=true→inR .i64 ((b.length:Int)-(↑(p+(1:Nat)+(2:Nat)):Int)),(bif (0:Int)==(0:Int) then decide ((n:Int)>(b.length:Int)-(↑(p+(1:Nat)+(2:Nat)):Int)) else false)=false,((0:Int)==(0:Int))=true,inR .i64 ((↑(p+(1:Nat)+(2:Nat)):Int)+(n:Int)),EqvI (.c (.sl 1 ((Int.ofNat (p+(1:Nat)+(2:Nat)+n)).toNat-(Int.ofNat (p+(1:Nat)+(2:Nat))).toNat) fun i j=>bytesF b ((Int.ofNat (p+(1:Nat)+(2:Nat))).toNat+i) j)) (.c (.sl 1 n (bytesF (List.take n (List.drop (p+(1:Nat)+(2:Nat)) b))))),EqvD (.c (.sl 1 ((Int.ofNat (p+(1:Nat)+(2:Nat)+n)).toNat-(Int.ofNat (p+(1:Nat)+(2:Nat))).toNat) fun i j=>bytesF b ((Int.ofNat (p+(1:Nat)+(2:Nat))).toNat+i) j)) (.c (.sl 1 n (bytesF (List.take n (List.drop (p+(1:Nat)+(2:Nat)) b))))),(0:Int)≤Int.ofNat (p+(1:Nat)+(2:Nat))∧Int.ofNat (p+(1:Nat)+(2:Nat))≤Int.ofNat (p+(1:Nat)+(2:Nat)+n)∧Int.ofNat (p+(1:Nat)+(2:Nat)+n)≤(b.length:Int),EqvI (.c (.str (byteL (bytesF (List.take n (List.drop (p+1+2) b))) 0 n))) (.c (.str (List.take n (List.drop (p+1+2) b)))),EqvD (.c (.str (byteL (bytesF (List.take n (List.drop (p+1+2) b))) 0 n))) (.c (.str (List.take n (List.drop (p+1+2) b)))),areBytes (bytesF (List.take n (List.drop (p+1+2) b))) 0 n,inR .i64 ((↑(p+(1:Nat)+(2:Nat)):Int)+(n:Int))] ⟨aS,rfl,i6,rfl,aS,(fun _=>i6),aS,rfl,i6,fun _ _=>trivial,aS,⟨sO,⟨sO,sO⟩⟩,fun _ _=>trivial,aS,aS,i6⟩ ?_
 refine zl (fun (k:Nat)=>⟨[(0,.v (.c (.ptr (0:Nat) (0:Nat)))),(1,.v (.c (.int .i64 ((17:Int)-(↑(f+(1:Nat)):Int))))),(4,.v (.c (.ptr 1 (0:Nat)))),(5,.v (.c (.ptr (289:Nat) (0:Nat)))),(6,.v (.c (.int .i64 (0:Int)))),(8,.v (.c (.int .i64 (0:Int))))],[(1,.box 101 [.int .i64 (0:Int),.int .i64 (0:Int),.str [],.nilsl]),(289,.box 101 [.int .i64 (↑(1:Nat):Int),.int .i64 (0:Int),.str (List.take n (List.drop (p+(1:Nat)+(2:Nat)) b)),.nilsl]),(0,.box 165 [.sl (1:Nat) b.length (bytesF b),.int .i64 ((↑(p+(1:Nat)+(2:Nat)):Int)+(↑n:Int)),.int .i64 ((↑l:Int)-(1:Int)),.int .i64 (0:Int)])],1713⟩) (fun _=>True) (fun k=>k) 0 trivial ?_ [(1,1),(289,289)]
 intro k L hk again
 refine zg [(36,{fm:=[(0,.agg [.int .i64 1,.int .i64 0,.str ((b.drop (p+1+2)).take n),.sl 4 0 (fun _ _ => .nilif)])]})] [false] [(bif decide ((0:Int)<(0:Int)) then (0:Int)==(0:Int) else false)=false,EqvI (.agg [.int .i64 (↑(1:Nat):Int),.int .i64 0,.str (List.take n (List.drop (p+(1:Nat)+(2:Nat)) b)),.nilsl]) (.agg [.int .i64 1,.int .i64 0,.str (List.take n (List.drop (p+(1:Nat)+(2:Nat)) b)),.sl 4 (0:Nat) fun (x x_1:Nat) => .nilif]),EqvD (.agg [.int .i64 (↑(1:Nat):Int),.int .i64 0,.str (List.take n (List.drop (p+(1:Nat)+(2:Nat)) b)),.nilsl]) (.agg [.int .i64 1,.int .i64 0,.str (List.take n (List.drop (p+(1:Nat)+(2:Nat)) b)),.sl 4 (0:Nat) fun (x x_1:Nat) => .nilif])] ⟨rfl,eqvI_flat _ _ kR,(show EqvD (.agg [.int .i64 (↑(1:Nat):Int),.int .i64 (0:Int),.str (List.take n (List.drop (p+(1:Nat)+(2:Nat)) b)),.nilsl]) (.agg [.int .i64 (1:Int),.int .i64 (0:Int),.str (List.take n (List.drop (p+(1:Nat)+(2:Nat)) b)),.sl (4:Nat) (0:Nat) fun (x x_1:Nat) => .nilif]) from aS)⟩ ?_
 exact zb []
theorem node_n1 (b:List UInt8) (hb:b.length≤30000000000000) (f p l:Nat) (hf:f<16) (hl:0<l) (hl2:l≤64) (hp:p<b.length) (hk:(b.getD p 0).toNat=2) (h2:b.length<p+1+4):FnB Tryz.prog G 132 [rB b p l 0] [.c (.ptr 0 0),.c (.int .i64 (17-((f+1:Nat):Int)))] [.agg (encK ⟨2,0,[],0,fun _ _ => .nilif⟩)] [(0,rB b (p+1+4) ((l:Int)-1) 1)]:=by
 refine zf Tryz.func132 ?_
 have ht0:(bif (0:Int)==0 then bif decide ((l:Int)<1) then true else decide (17-((f+1:Nat):Int)>16) else false)=false:=by rw [decide_eq_false oM,decide_eq_false oM];rfl
 have c1:=num1 (G:=G) b p ((l:Int)-1) hb hp hk
 have c2:=numR_short (G:=G) b (p+1) ((l:Int)-1) 4 hb dC dC oM h2
 have eD:=@kids_D 2 0 [] (fun _ _ => .nilif)
 have eI:=@kids_I 2 0 [] (fun _ _ => .nilif)
 refine zg [(36,{fm:=[(0,.agg [.int .i64 2,.int .i64 0,.str [],.sl 4 0 (fun _ _ => .nilif)])]}),(7,{cs:=[(1,cb [0] c1)]}),(22,{cs:=[(1,cb [0] c2)]})] [false,false,false,true,false] [(bif (0:Int)==(0:Int) then bif decide ((l:Int)<(1:Int)) then true else decide ((17:Int)-(↑(f+(1:Nat)):Int)>(16:Int)) else false)=false,((0:Int) != (0:Int))=false,inR .i64 ((l:Int)-1),((↑(2:Nat):Int)==(1:Int))=false,((↑(2:Nat):Int)==(2:Int))=true,(bif (1:Int)==(0:Int) then decide ((0:Int)>(1073741824:Int)) else false)=false] ⟨aS,rfl,i6,rfl,rfl,rfl⟩ ?_
 refine zl (fun (k:Nat)=>⟨[(0,.v (.c (.ptr (0:Nat) (0:Nat)))),(1,.v (.c (.int .i64 ((17:Int)-(↑(f+(1:Nat)):Int))))),(4,.v (.c (.ptr 1 (0:Nat)))),(5,.v (.c (.ptr (289:Nat) (0:Nat)))),(6,.v (.c (.int .i64 (0:Int)))),(8,.v (.c (.int .i64 (0:Int))))],[(1,.box 101 [.int .i64 (0:Int),.int .i64 (0:Int),.str [],.nilsl]),(289,.box 101 [.int .i64 (↑(2:Nat):Int),.int .i64 (0:Int),.str [],.nilsl]),(0,.box 165 [.sl (1:Nat) b.length (bytesF b),.int .i64 (↑(p+(1:Nat)+(4:Nat)):Int),.int .i64 ((↑l:Int)-(1:Int)),.int .i64 (1:Int)])],945⟩) (fun _=>True) (fun k=>k) 0 trivial ?_ [(1,1),(289,289)]
 intro k L hk again
 refine zg [(36,{fm:=[(0,.agg [.int .i64 2,.int .i64 0,.str [],.sl 4 0 (fun _ _ => .nilif)])]})] [false] [(bif decide ((0:Int)<(0:Int)) then (1:Int)==(0:Int) else false)=false,EqvI (.agg [.int .i64 (↑(2:Nat):Int),.int .i64 0,.str [],.nilsl]) (.agg [.int .i64 2,.int .i64 0,.str [],.sl 4 (0:Nat) fun (x x_1:Nat) => .nilif]),EqvD (.agg [.int .i64 (↑(2:Nat):Int),.int .i64 0,.str [],.nilsl]) (.agg [.int .i64 2,.int .i64 0,.str [],.sl 4 (0:Nat) fun (x x_1:Nat) => .nilif])] ⟨rfl,eqvI_flat _ _ kR,(show EqvD (.agg [.int .i64 (↑(2:Nat):Int),.int .i64 (0:Int),.str [],.nilsl]) (.agg [.int .i64 (2:Int),.int .i64 (0:Int),.str [],.sl (4:Nat) (0:Nat) fun (x x_1:Nat) => .nilif]) from aS)⟩ ?_
 exact zb []
theorem node_n2 (b:List UInt8) (hb:b.length≤30000000000000) (f p l:Nat) (hf:f<16) (hl:0<l) (hl2:l≤64) (hp:p<b.length) (hk:(b.getD p 0).toNat=2) (h2:p+1+4≤b.length) {n:Nat} (hn:(beN b (p+1) 4).toNat=n) (h3:1073741824<n):FnB Tryz.prog G 132 [rB b p l 0] [.c (.ptr 0 0),.c (.int .i64 (17-((f+1:Nat):Int)))] [.agg (encK ⟨2,(n:Int),[],0,fun _ _ => .nilif⟩)] [(0,rB b (p+1+4) ((l:Int)-1) 3)]:=by
 refine zf Tryz.func132 ?_
 have ht0:(bif (0:Int)==0 then bif decide ((l:Int)<1) then true else decide (17-((f+1:Nat):Int)>16) else false)=false:=by rw [decide_eq_false oM,decide_eq_false oM];rfl
 have c1:=num1 (G:=G) b p ((l:Int)-1) hb hp hk
 have c2:=numN (G:=G) b (p+1) ((l:Int)-1) 4 hb dC h2
 rw [hn] at c2
 have ht1:(bif (0:Int)==0 then decide ((n:Int)>1073741824) else false)=true:=by rw [decide_eq_true oM];rfl
 have eD:=@kids_D 2 (n:Int) [] (fun _ _ => .nilif)
 have eI:=@kids_I 2 (n:Int) [] (fun _ _ => .nilif)
 refine zg [(36,{fm:=[(0,.agg [.int .i64 2,.int .i64 (n:Int),.str [],.sl 4 0 (fun _ _ => .nilif)])]}),(7,{cs:=[(1,cb [0] c1)]}),(22,{cs:=[(1,cb [0] c2)]})] [false,false,false,true,true] [(bif (0:Int)==(0:Int) then bif decide ((l:Int)<(1:Int)) then true else decide ((17:Int)-(↑(f+(1:Nat)):Int)>(16:Int)) else false)=false,((0:Int) != (0:Int))=false,inR .i64 ((l:Int)-1),((↑(2:Nat):Int)==(1:Int))=false,((↑(2:Nat):Int)==(2:Int))=true,(bif (0:Int)==(0:Int) then decide ((n:Int)>(1073741824:Int)) else false)=true] ⟨aS,rfl,i6,rfl,rfl,(show (bif (0:Int)==(0:Int) then decide ((↑n:Int)>(1073741824:Int)) else false)=true from aS)⟩ ?_
 refine zl (fun (k:Nat)=>⟨[(0,.v (.c (.ptr (0:Nat) (0:Nat)))),(1,.v (.c (.int .i64 ((17:Int)-(↑(f+(1:Nat)):Int))))),(4,.v (.c (.ptr 1 (0:Nat)))),(5,.v (.c (.ptr (289:Nat) (0:Nat)))),(6,.v (.c (.int .i64 (0:Int)))),(8,.v (.c (.int .i64 (0:Int))))],[(1,.box 101 [.int .i64 (0:Int),.int .i64 (0:Int),.str [],.nilsl]),(289,.box 101 [.int .i64 (↑(2:Nat):Int),.int .i64 (↑n:Int),.str [],.nilsl]),(0,.box 165 [.sl (1:Nat) b.length (bytesF b),.int .i64 (↑(p+(1:Nat)+(4:Nat)):Int),.int .i64 ((↑l:Int)-(1:Int)),.int .i64 (3:Int)])],1009⟩) (fun _=>True) (fun k=>k) 0 trivial ?_ [(1,1),(289,289)]
 intro k L hk again
 refine zg [(36,{fm:=[(0,.agg [.int .i64 2,.int .i64 (n:Int),.str [],.sl 4 0 (fun _ _ => .nilif)])]})] [false] [(bif decide ((0:Int)<(0:Int)) then (3:Int)==(0:Int) else false)=false,EqvI (.agg [.int .i64 (↑(2:Nat):Int),.int .i64 (n:Int),.str [],.nilsl]) (.agg [.int .i64 2,.int .i64 (n:Int),.str [],.sl 4 (0:Nat) fun (x x_1:Nat) => .nilif]),EqvD (.agg [.int .i64 (↑(2:Nat):Int),.int .i64 (n:Int),.str [],.nilsl]) (.agg [.int .i64 2,.int .i64 (n:Int),.str [],.sl 4 (0:Nat) fun (x x_1:Nat) => .nilif])] ⟨rfl,eqvI_flat _ _ kR,(show EqvD (.agg [.int .i64 (↑(2:Nat):Int),.int .i64 (↑n:Int),.str [],.nilsl]) (.agg [.int .i64 (2:Int),.int .i64 (↑n:Int),.str [],.sl (4:Nat) (0:Nat) fun (x x_1:Nat) => .nilif]) from aS)⟩ ?_
 exact zb []
theorem node_n3 (b:List UInt8) (hb:b.length≤30000000000000) (f p l:Nat) (hf:f<16) (hl:0<l) (hl2:l≤64) (hp:p<b.length) (hk:(b.getD p 0).toNat=2) (h2:p+1+4≤b.length) {n:Nat} (hn:(beN b (p+1) 4).toNat=n) (h3:n≤1073741824):FnB Tryz.prog G 132 [rB b p l 0] [.c (.ptr 0 0),.c (.int .i64 (17-((f+1:Nat):Int)))] [.agg (encK ⟨2,(n:Int),[],0,fun _ _ => .nilif⟩)] [(0,rB b (p+1+4) ((l:Int)-1) 0)]:=by
 refine zf Tryz.func132 ?_
 have ht0:(bif (0:Int)==0 then bif decide ((l:Int)<1) then true else decide (17-((f+1:Nat):Int)>16) else false)=false:=by rw [decide_eq_false oM,decide_eq_false oM];rfl
 have c1:=num1 (G:=G) b p ((l:Int)-1) hb hp hk
 have c2:=numN (G:=G) b (p+1) ((l:Int)-1) 4 hb dC h2
 rw [hn] at c2
 have ht1:(bif (0:Int)==0 then decide ((n:Int)>1073741824) else false)=false:=by rw [decide_eq_false oM];rfl
 have eD:=@kids_D 2 (n:Int) [] (fun _ _ => .nilif)
 have eI:=@kids_I 2 (n:Int) [] (fun _ _ => .nilif)
 refine zg [(36,{fm:=[(0,.agg [.int .i64 2,.int .i64 (n:Int),.str [],.sl 4 0 (fun _ _ => .nilif)])]}),(7,{cs:=[(1,cb [0] c1)]}),(22,{cs:=[(1,cb [0] c2)]})] [false,false,false,true,false] [(bif (0:Int)==(0:Int) then bif decide ((l:Int)<(1:Int)) then true else decide ((17:Int)-(↑(f+(1:Nat)):Int)>(16:Int)) else false)=false,((0:Int) != (0:Int))=false,inR .i64 ((l:Int)-1),((↑(2:Nat):Int)==(1:Int))=false,((↑(2:Nat):Int)==(2:Int))=true,(bif (0:Int)==(0:Int) then decide ((n:Int)>(1073741824:Int)) else false)=false] ⟨aS,rfl,i6,rfl,rfl,(show (bif (0:Int)==(0:Int) then decide ((↑n:Int)>(1073741824:Int)) else false)=false from aS)⟩ ?_
 refine zl (fun (k:Nat)=>⟨[(0,.v (.c (.ptr (0:Nat) (0:Nat)))),(1,.v (.c (.int .i64 ((17:Int)-(↑(f+(1:Nat)):Int))))),(4,.v (.c (.ptr 1 (0:Nat)))),(5,.v (.c (.ptr (289:Nat) (0:Nat)))),(6,.v (.c (.int .i64 (0:Int)))),(8,.v (.c (.int .i64 (0:Int))))],[(1,.box 101 [.int .i64 (0:Int),.int .i64 (0:Int),.str [],.nilsl]),(289,.box 101 [.int .i64 (↑(2:Nat):Int),.int .i64 (↑n:Int),.str [],.nilsl]),(0,.box 165 [.sl (1:Nat) b.length (bytesF b),.int .i64 (↑(p+(1:Nat)+(4:Nat)):Int),.int .i64 ((↑l:Int)-(1:Int)),.int .i64 (0:Int)])],945⟩) (fun _=>True) (fun k=>k) 0 trivial ?_ [(1,1),(289,289)]
 intro k L hk again
 refine zg [(36,{fm:=[(0,.agg [.int .i64 2,.int .i64 (n:Int),.str [],.sl 4 0 (fun _ _ => .nilif)])]})] [false] [(bif decide ((0:Int)<(0:Int)) then (0:Int)==(0:Int) else false)=false,EqvI (.agg [.int .i64 (↑(2:Nat):Int),.int .i64 (n:Int),.str [],.nilsl]) (.agg [.int .i64 2,.int .i64 (n:Int),.str [],.sl 4 (0:Nat) fun (x x_1:Nat) => .nilif]),EqvD (.agg [.int .i64 (↑(2:Nat):Int),.int .i64 (n:Int),.str [],.nilsl]) (.agg [.int .i64 2,.int .i64 (n:Int),.str [],.sl 4 (0:Nat) fun (x x_1:Nat) => .nilif])] ⟨rfl,eqvI_flat _ _ kR,(show EqvD (.agg [.int .i64 (↑(2:Nat):Int),.int .i64 (↑n:Int),.str [],.nilsl]) (.agg [.int .i64 (2:Int),.int .i64 (↑n:Int),.str [],.sl (4:Nat) (0:Nat) fun (x x_1:Nat) => .nilif]) from aS)⟩ ?_
 exact zb []
theorem node_bad (b:List UInt8) (hb:b.length≤30000000000000) (f p l:Nat) (hf:f<16) (hl:0<l) (hl2:l≤64) (hp:p<b.length) {k:Nat} (hk:(b.getD p 0).toNat=k) (hk0:k=0∨8≤k):FnB Tryz.prog G 132 [rB b p l 0] [.c (.ptr 0 0),.c (.int .i64 (17-((f+1:Nat):Int)))] [.agg (encK ⟨(k:Int),0,[],0,fun _ _ => .nilif⟩)] [(0,rB b (p+1) ((l:Int)-1) 2)]:=by
 refine zf Tryz.func132 ?_
 have ht0:(bif (0:Int)==0 then bif decide ((l:Int)<1) then true else decide (17-((f+1:Nat):Int)>16) else false)=false:=by rw [decide_eq_false oM,decide_eq_false oM];rfl
 have c1:=num1 (G:=G) b p ((l:Int)-1) hb hp hk
 have hk1:((k:Int)==1)=false:=by rw [beq_eq_false_iff_ne];omega
 have hk2:((k:Int)==2)=false:=by rw [beq_eq_false_iff_ne];omega
 have hk3:((k:Int)==3)=false:=by rw [beq_eq_false_iff_ne];omega
 have hk4:((k:Int)==4)=false:=by rw [beq_eq_false_iff_ne];omega
 have hk5:((k:Int)==5)=false:=by rw [beq_eq_false_iff_ne];omega
 have hk6:((k:Int)==6)=false:=by rw [beq_eq_false_iff_ne];omega
 have hk7:((k:Int)==7)=false:=by rw [beq_eq_false_iff_ne];omega
 have eD:=@kids_D (k:Int) 0 [] (fun _ _ => .nilif)
 have eI:=@kids_I (k:Int) 0 [] (fun _ _ => .nilif)
 refine zg [(36,{fm:=[(0,.agg [.int .i64 (k:Int),.int .i64 0,.str [],.sl 4 0 (fun _ _ => .nilif)])]}),(7,{cs:=[(1,cb [0] c1)]})] [false,false,false,false,false,false,false,false,false,true] [(bif (0:Int)==(0:Int) then bif decide ((l:Int)<(1:Int)) then true else decide ((17:Int)-(↑(f+(1:Nat)):Int)>(16:Int)) else false)=false,((0:Int) != (0:Int))=false,inR .i64 ((l:Int)-1),((k:Int)==(1:Int))=false,((k:Int)==(2:Int))=false,((k:Int)==(3:Int))=false,((k:Int)==(4:Int))=false,((k:Int)==(5:Int))=false,((k:Int)==(6:Int))=false,((k:Int)==(7:Int))=false,((0:Int)==(0:Int))=true] ⟨aS,rfl,i6,aS,aS,aS,aS,aS,aS,aS,rfl⟩ ?_
 refine zl (fun (k9:Nat)=>⟨[(0,.v (.c (.ptr (0:Nat) (0:Nat)))),(1,.v (.c (.int .i64 ((17:Int)-(↑(f+(1:Nat)):Int))))),(4,.v (.c (.ptr 1 (0:Nat)))),(5,.v (.c (.ptr (289:Nat) (0:Nat)))),(6,.v (.c (.int .i64 (0:Int)))),(8,.v (.c (.int .i64 (0:Int))))],[(1,.box 101 [.int .i64 (0:Int),.int .i64 (0:Int),.str [],.nilsl]),(289,.box 101 [.int .i64 (↑k:Int),.int .i64 (0:Int),.str [],.nilsl]),(0,.box 165 [.sl (1:Nat) b.length (bytesF b),.int .i64 (↑(p+(1:Nat)):Int),.int .i64 ((↑l:Int)-(1:Int)),.int .i64 (2:Int)])],1025⟩) (fun _=>True) (fun k=>k) 0 trivial ?_ [(1,1),(289,289)]
 intro k9 L hk9 again
 refine zg [(36,{fm:=[(0,.agg [.int .i64 (k:Int),.int .i64 0,.str [],.sl 4 0 (fun _ _ => .nilif)])]})] [false] [(bif decide ((0:Int)<(0:Int)) then (2:Int)==(0:Int) else false)=false,EqvI (.agg [.int .i64 (k:Int),.int .i64 0,.str [],.nilsl]) (.agg [.int .i64 (k:Int),.int .i64 0,.str [],.sl 4 (0:Nat) fun (x x_1:Nat) => .nilif]),EqvD (.agg [.int .i64 (k:Int),.int .i64 0,.str [],.nilsl]) (.agg [.int .i64 (k:Int),.int .i64 0,.str [],.sl 4 (0:Nat) fun (x x_1:Nat) => .nilif])] ⟨rfl,eqvI_flat _ _ kR,(show EqvD (.agg [.int .i64 (↑k:Int),.int .i64 (0:Int),.str [],.nilsl]) (.agg [.int .i64 (↑k:Int),.int .i64 (0:Int),.str [],.sl (4:Nat) (0:Nat) fun (x x_1:Nat) => .nilif]) from aS)⟩ ?_
 exact zb []
theorem kid_new {e:TypeId} (x:KT):BlkEqv (.row e 4 1 (catF 0 (fun _ _ => .nilif) (fun i j=>nthD (encK x) ((0+i)*4+j)))) (.row e 4 1 (rowF encK .nil [x])):=BlkEqv.row_ext rfl fun i hi j hj=>by
 obtain rfl:i=0:=by omega
 show nthD (encK x) ((0+(0-0))*4+j)=nthD (encK x) j
 congr 1;omega
theorem deep_D (f:Nat):EqvD (.c (.int .i64 ((17:Int)-((f+1:Nat):Int)+1))) (.c (.int .i64 ((17:Int)-(f:Int)))):=eqvD_of (by rw [show (17:Int)-((f+1:Nat):Int)+1=(17:Int)-(f:Int) by omega])
def kidSt (b:List UInt8) (f:Nat) (kids k i:Int) (nx p:Nat) (lf e:Int):List KT→St
 | []=>⟨[(0,.v (.c (.ptr 0 0))),(1,.v (.c (.int .i64 ((17:Int)-((f+1:Nat):Int))))),(4,.v (.c (.ptr 1 0))),(5,.v (.c (.ptr 289 0))),(6,.v (.c (.int .i64 kids))),(8,.v (.c (.int .i64 i)))],[(1,.box 101 [.int .i64 0,.int .i64 0,.str [],.nilsl]),(289,.box 101 [.int .i64 k,.int .i64 0,.str [],.nilsl]),(0,rB b p lf e)],nx⟩
 | x::r=>⟨[(0,.v (.c (.ptr 0 0))),(1,.v (.c (.int .i64 ((17:Int)-((f+1:Nat):Int))))),(4,.v (.c (.ptr 1 0))),(5,.v (.c (.ptr 289 0))),(6,.v (.c (.int .i64 kids))),(8,.v (.c (.int .i64 i)))],[(1,.box 101 [.int .i64 0,.int .i64 0,.str [],.nilsl]),(289,.box 101 [.int .i64 k,.int .i64 0,.str [],.row 4 41 0 (r.length+1)]),(41,.row 101 4 (r.length+1) (rowF encK .nil (x::r))),(0,rB b p lf e)],nx⟩
theorem node_one3 (b:List UInt8) (hb:b.length≤30000000000000) (f p l:Nat) (hf:f<16) (hl:0<l) (hl2:l≤64) (hp:p<b.length) (hk:(b.getD p 0).toNat=3) {x:KT} {p1:Nat} {l1 e:Int} (cx:FnB Tryz.prog G 132 [rB b (p+1) ((l:Int)-1) 0] [.c (.ptr 0 0),.c (.int .i64 (17-(f:Int)))] [.agg (encK x)] [(0,rB b p1 l1 e)]):FnB Tryz.prog G 132 [rB b p l 0] [.c (.ptr 0 0),.c (.int .i64 (17-((f+1:Nat):Int)))] [.agg (encK ⟨3,0,[],1,rowF encK .nil [x]⟩)] [(0,rB b p1 l1 e)]:=by
 refine zf Tryz.func132 ?_
 have ht0:(bif (0:Int)==0 then bif decide ((l:Int)<1) then true else decide (17-((f+1:Nat):Int)>16) else false)=false:=by rw [decide_eq_false oM,decide_eq_false oM];rfl
 have c1:=num1 (G:=G) b p ((l:Int)-1) hb hp hk
 refine zg [(7,{cs:=[(1,cb [0] c1)]})] [false,false,false,false,true,true] [(bif (0:Int)==(0:Int) then bif decide ((l:Int)<(1:Int)) then true else decide ((17:Int)-(↑(f+(1:Nat)):Int)>(16:Int)) else false)=false,((0:Int) != (0:Int))=false,inR .i64 ((l:Int)-1),((↑(3:Nat):Int)==(1:Int))=false,((↑(3:Nat):Int)==(2:Int))=false,((↑(3:Nat):Int)==(3:Int))=true,((↑(3:Nat):Int)==(3:Int))=true] ⟨aS,rfl,i6,rfl,rfl,rfl,rfl⟩ ?_
 have e1:=kid_new (e:=101) x
 have e2:=deep_D f
 refine zl (fun (j:Nat)=>match j with | 0=>kidSt b f 1 3 0 769 (p+1) ((l:Int)-1) 0 [] | _=>kidSt b f 1 3 1 769 p1 l1 e [x]) (fun j=>j≤1) (fun j=>1-j) 0 (Nat.zero_le _) ?_ [(1,1),(289,289)]
 intro j L hj again
 obtain rfl | rfl:j=0∨j=1:=by omega
 ·refine zg [(35,{cs:=[(5,cb [0] cx)],fm:=[(4,.c (.int .i64 ((17:Int)-(f:Int))))],bs:=[(7,.row 101 4 1 (rowF encK .nil [x]))]})] [true] [(bif decide ((0:Int)<(1:Int)) then (0:Int)==(0:Int) else false)=true,EqvI (.c (.int .i64 ((17:Int)-(↑(f+(1:Nat)):Int)+(1:Int)))) (.c (.int .i64 ((17:Int)-(f:Int)))),EqvD (.c (.int .i64 ((17:Int)-(↑(f+(1:Nat)):Int)+(1:Int)))) (.c (.int .i64 ((17:Int)-(f:Int)))),inR .i64 ((17:Int)-(↑(f+(1:Nat)):Int)+(1:Int)),56≤140737488355328,BlkEqv (.row 101 4 1 (catF 0 (fun (x x_1:Nat) => .nilif) fun i j=>nthD (encK x) ((0+i)*4+j))) (.row 101 4 1 (rowF encK KT.nil [x])),0+1≤1,inR .i64 (0+1)] ⟨rfl,fun _ _=>trivial,aS,i6,oM,aS,oM,i6⟩ ?_
  exact za [(41,1041)] (again _ 1 oM oM)
 ·refine Wp.ent' kR (Ent.pubC (id:=41) (b:=289) (o:=3) (off:=0) (m:=1) (sz:=4) (n:=1) (e:=101) (e':=101) (cs:=[.int .i64 3,.int .i64 0,.str [],.row 4 41 0 1]) (f:=rowF encK .nil [x]) (m':=1) (f':=rowF encK .nil [x]) kR kR kR oM rfl (fun i _ j _=>by rw [Nat.zero_add]) rfl) ?_
  refine zg [] [false] [(bif decide ((1:Int)<(1:Int)) then e==(0:Int) else false)=false] rfl ?_
  exact zb []
theorem node_one4 (b:List UInt8) (hb:b.length≤30000000000000) (f p l:Nat) (hf:f<16) (hl:0<l) (hl2:l≤64) (hp:p<b.length) (hk:(b.getD p 0).toNat=4) {x:KT} {p1:Nat} {l1 e:Int} (cx:FnB Tryz.prog G 132 [rB b (p+1) ((l:Int)-1) 0] [.c (.ptr 0 0),.c (.int .i64 (17-(f:Int)))] [.agg (encK x)] [(0,rB b p1 l1 e)]):FnB Tryz.prog G 132 [rB b p l 0] [.c (.ptr 0 0),.c (.int .i64 (17-((f+1:Nat):Int)))] [.agg (encK ⟨4,0,[],1,rowF encK .nil [x]⟩)] [(0,rB b p1 l1 e)]:=by
 refine zf Tryz.func132 ?_
 have ht0:(bif (0:Int)==0 then bif decide ((l:Int)<1) then true else decide (17-((f+1:Nat):Int)>16) else false)=false:=by rw [decide_eq_false oM,decide_eq_false oM];rfl
 have c1:=num1 (G:=G) b p ((l:Int)-1) hb hp hk
 refine zg [(7,{cs:=[(1,cb [0] c1)]})] [false,false,false,false,false,true] [(bif (0:Int)==(0:Int) then bif decide ((l:Int)<(1:Int)) then true else decide ((17:Int)-(↑(f+(1:Nat)):Int)>(16:Int)) else false)=false,((0:Int) != (0:Int))=false,inR .i64 ((l:Int)-1),((↑(4:Nat):Int)==(1:Int))=false,((↑(4:Nat):Int)==(2:Int))=false,((↑(4:Nat):Int)==(3:Int))=false,((↑(4:Nat):Int)==(4:Int))=true] ⟨aS,rfl,i6,rfl,rfl,rfl,rfl⟩ ?_
 have e1:=kid_new (e:=101) x
 have e2:=deep_D f
 refine zl (fun (j:Nat)=>match j with | 0=>kidSt b f 1 4 0 801 (p+1) ((l:Int)-1) 0 [] | _=>kidSt b f 1 4 1 801 p1 l1 e [x]) (fun j=>j≤1) (fun j=>1-j) 0 (Nat.zero_le _) ?_ [(1,1),(289,289)]
 intro j L hj again
 obtain rfl | rfl:j=0∨j=1:=by omega
 ·refine zg [(35,{cs:=[(5,cb [0] cx)],fm:=[(4,.c (.int .i64 ((17:Int)-(f:Int))))],bs:=[(7,.row 101 4 1 (rowF encK .nil [x]))]})] [true] [(bif decide ((0:Int)<(1:Int)) then (0:Int)==(0:Int) else false)=true,EqvI (.c (.int .i64 ((17:Int)-(↑(f+(1:Nat)):Int)+(1:Int)))) (.c (.int .i64 ((17:Int)-(f:Int)))),EqvD (.c (.int .i64 ((17:Int)-(↑(f+(1:Nat)):Int)+(1:Int)))) (.c (.int .i64 ((17:Int)-(f:Int)))),inR .i64 ((17:Int)-(↑(f+(1:Nat)):Int)+(1:Int)),56≤140737488355328,BlkEqv (.row 101 4 1 (catF 0 (fun (x x_1:Nat) => .nilif) fun i j=>nthD (encK x) ((0+i)*4+j))) (.row 101 4 1 (rowF encK KT.nil [x])),0+1≤1,inR .i64 (0+1)] ⟨rfl,fun _ _=>trivial,aS,i6,oM,aS,oM,i6⟩ ?_
  exact za [(41,1073)] (again _ 1 oM oM)
 ·refine Wp.ent' kR (Ent.pubC (id:=41) (b:=289) (o:=3) (off:=0) (m:=1) (sz:=4) (n:=1) (e:=101) (e':=101) (cs:=[.int .i64 4,.int .i64 0,.str [],.row 4 41 0 1]) (f:=rowF encK .nil [x]) (m':=1) (f':=rowF encK .nil [x]) kR kR kR oM rfl (fun i _ j _=>by rw [Nat.zero_add]) rfl) ?_
  refine zg [] [false] [(bif decide ((1:Int)<(1:Int)) then e==(0:Int) else false)=false] rfl ?_
  exact zb []
theorem node_twoX5 (b:List UInt8) (hb:b.length≤30000000000000) (f p l:Nat) (hf:f<16) (hl:0<l) (hl2:l≤64) (hp:p<b.length) (hk:(b.getD p 0).toNat=5) {x:KT} {p1:Nat} {l1 e:Int} (he:e≠0) (cx:FnB Tryz.prog G 132 [rB b (p+1) ((l:Int)-1) 0] [.c (.ptr 0 0),.c (.int .i64 (17-(f:Int)))] [.agg (encK x)] [(0,rB b p1 l1 e)]):FnB Tryz.prog G 132 [rB b p l 0] [.c (.ptr 0 0),.c (.int .i64 (17-((f+1:Nat):Int)))] [.agg (encK ⟨5,0,[],1,rowF encK .nil [x]⟩)] [(0,rB b p1 l1 e)]:=by
 refine zf Tryz.func132 ?_
 have ht0:(bif (0:Int)==0 then bif decide ((l:Int)<1) then true else decide (17-((f+1:Nat):Int)>16) else false)=false:=by rw [decide_eq_false oM,decide_eq_false oM];rfl
 have c1:=num1 (G:=G) b p ((l:Int)-1) hb hp hk
 refine zg [(7,{cs:=[(1,cb [0] c1)]})] [false,false,false,false,false,false,true,true] [(bif (0:Int)==(0:Int) then bif decide ((l:Int)<(1:Int)) then true else decide ((17:Int)-(↑(f+(1:Nat)):Int)>(16:Int)) else false)=false,((0:Int) != (0:Int))=false,inR .i64 ((l:Int)-1),((↑(5:Nat):Int)==(1:Int))=false,((↑(5:Nat):Int)==(2:Int))=false,((↑(5:Nat):Int)==(3:Int))=false,((↑(5:Nat):Int)==(4:Int))=false,((↑(5:Nat):Int)==(5:Int))=true,((↑(5:Nat):Int)==(5:Int))=true] ⟨aS,rfl,i6,rfl,rfl,rfl,rfl,rfl,rfl⟩ ?_
 have e1:=kid_new (e:=101) x
 have e2:=deep_D f
 refine zl (fun (j:Nat)=>match j with | 0=>kidSt b f 2 5 0 833 (p+1) ((l:Int)-1) 0 [] | _=>kidSt b f 2 5 1 833 p1 l1 e [x]) (fun j=>j≤1) (fun j=>1-j) 0 (Nat.zero_le _) ?_ [(1,1),(289,289)]
 intro j L hj again
 obtain rfl | rfl:j=0∨j=1:=by omega
 ·refine zg [(35,{cs:=[(5,cb [0] cx)],fm:=[(4,.c (.int .i64 ((17:Int)-(f:Int))))],bs:=[(7,.row 101 4 1 (rowF encK .nil [x]))]})] [true] [(bif decide ((0:Int)<(2:Int)) then (0:Int)==(0:Int) else false)=true,EqvI (.c (.int .i64 ((17:Int)-(↑(f+(1:Nat)):Int)+(1:Int)))) (.c (.int .i64 ((17:Int)-(f:Int)))),EqvD (.c (.int .i64 ((17:Int)-(↑(f+(1:Nat)):Int)+(1:Int)))) (.c (.int .i64 ((17:Int)-(f:Int)))),inR .i64 ((17:Int)-(↑(f+(1:Nat)):Int)+(1:Int)),56≤140737488355328,BlkEqv (.row 101 4 1 (catF 0 (fun (x x_1:Nat) => .nilif) fun i j=>nthD (encK x) ((0+i)*4+j))) (.row 101 4 1 (rowF encK KT.nil [x])),0+1≤1,inR .i64 (0+1)] ⟨rfl,fun _ _=>trivial,aS,i6,oM,aS,oM,i6⟩ ?_
  exact za [(41,1105)] (again _ 1 oM oM)
 ·refine Wp.ent' kR (Ent.pubC (id:=41) (b:=289) (o:=3) (off:=0) (m:=1) (sz:=4) (n:=1) (e:=101) (e':=101) (cs:=[.int .i64 5,.int .i64 0,.str [],.row 4 41 0 1]) (f:=rowF encK .nil [x]) (m':=1) (f':=rowF encK .nil [x]) kR kR kR oM rfl (fun i _ j _=>by rw [Nat.zero_add]) rfl) ?_
  have ht:(bif decide ((1:Int)<2) then e==0 else false)=false:=by simp [he]
  refine zg [] [false] [(bif decide ((1:Int)<(2:Int)) then e==(0:Int) else false)=false] (oN aS) ?_
  exact zb []
theorem node_two5 (b:List UInt8) (hb:b.length≤30000000000000) (f p l:Nat) (hf:f<16) (hl:0<l) (hl2:l≤64) (hp:p<b.length) (hk:(b.getD p 0).toNat=5) {x y:KT} {p1 p2:Nat} {l1 l2 e:Int} (cx:FnB Tryz.prog G 132 [rB b (p+1) ((l:Int)-1) 0] [.c (.ptr 0 0),.c (.int .i64 (17-(f:Int)))] [.agg (encK x)] [(0,rB b p1 l1 0)]) (cy:FnB Tryz.prog G 132 [rB b p1 l1 0] [.c (.ptr 0 0),.c (.int .i64 (17-(f:Int)))] [.agg (encK y)] [(0,rB b p2 l2 e)]):FnB Tryz.prog G 132 [rB b p l 0] [.c (.ptr 0 0),.c (.int .i64 (17-((f+1:Nat):Int)))] [.agg (encK ⟨5,0,[],2,rowF encK .nil [x,y]⟩)] [(0,rB b p2 l2 e)]:=by
 refine zf Tryz.func132 ?_
 have ht0:(bif (0:Int)==0 then bif decide ((l:Int)<1) then true else decide (17-((f+1:Nat):Int)>16) else false)=false:=by rw [decide_eq_false oM,decide_eq_false oM];rfl
 have c1:=num1 (G:=G) b p ((l:Int)-1) hb hp hk
 refine zg [(7,{cs:=[(1,cb [0] c1)]})] [false,false,false,false,false,false,true,true] [(bif (0:Int)==(0:Int) then bif decide ((l:Int)<(1:Int)) then true else decide ((17:Int)-(↑(f+(1:Nat)):Int)>(16:Int)) else false)=false,((0:Int) != (0:Int))=false,inR .i64 ((l:Int)-1),((↑(5:Nat):Int)==(1:Int))=false,((↑(5:Nat):Int)==(2:Int))=false,((↑(5:Nat):Int)==(3:Int))=false,((↑(5:Nat):Int)==(4:Int))=false,((↑(5:Nat):Int)==(5:Int))=true,((↑(5:Nat):Int)==(5:Int))=true] ⟨aS,rfl,i6,rfl,rfl,rfl,rfl,rfl,rfl⟩ ?_
 have e1:=kid_new (e:=101) x
 have e2:=deep_D f
 have e3:BlkEqv (.row 101 4 (1+1) (catF 1 (rowF encK .nil [x]) (fun i j=>nthD (encK y) ((0+i)*4+j)))) (.row 101 4 (1+1) (rowF encK .nil [x,y])):=enc_app [x] y rfl
 refine zl (fun (j:Nat)=>match j with | 0=>kidSt b f 2 5 0 833 (p+1) ((l:Int)-1) 0 [] | 1=>kidSt b f 2 5 1 833 p1 l1 0 [x] | _=>kidSt b f 2 5 2 833 p2 l2 e [x,y]) (fun j=>j≤2) (fun j=>2-j) 0 (Nat.zero_le _) ?_ [(1,1),(289,289)]
 intro j L hj again
 obtain rfl | rfl | rfl:j=0∨j=1∨j=2:=by omega
 ·refine zg [(35,{cs:=[(5,cb [0] cx)],fm:=[(4,.c (.int .i64 ((17:Int)-(f:Int))))],bs:=[(7,.row 101 4 1 (rowF encK .nil [x]))]})] [true] [(bif decide ((0:Int)<(2:Int)) then (0:Int)==(0:Int) else false)=true,EqvI (.c (.int .i64 ((17:Int)-(↑(f+(1:Nat)):Int)+(1:Int)))) (.c (.int .i64 ((17:Int)-(f:Int)))),EqvD (.c (.int .i64 ((17:Int)-(↑(f+(1:Nat)):Int)+(1:Int)))) (.c (.int .i64 ((17:Int)-(f:Int)))),inR .i64 ((17:Int)-(↑(f+(1:Nat)):Int)+(1:Int)),56≤140737488355328,BlkEqv (.row 101 4 1 (catF 0 (fun (x x_1:Nat) => .nilif) fun i j=>nthD (encK x) ((0+i)*4+j))) (.row 101 4 1 (rowF encK KT.nil [x])),0+1≤1,inR .i64 (0+1)] ⟨rfl,fun _ _=>trivial,aS,i6,oM,aS,oM,i6⟩ ?_
  exact za [(41,1105)] (again _ 1 oM oM)
 ·refine zg [(35,{cs:=[(5,cb [0] cy)],fm:=[(4,.c (.int .i64 ((17:Int)-(f:Int))))],bs:=[(7,.row 101 4 2 (rowF encK .nil [x,y]))]})] [true] [(bif decide ((1:Int)<(2:Int)) then (0:Int)==(0:Int) else false)=true,EqvI (.c (.int .i64 ((17:Int)-(↑(f+(1:Nat)):Int)+(1:Int)))) (.c (.int .i64 ((17:Int)-(f:Int)))),EqvD (.c (.int .i64 ((17:Int)-(↑(f+(1:Nat)):Int)+(1:Int)))) (.c (.int .i64 ((17:Int)-(f:Int)))),inR .i64 ((17:Int)-(↑(f+(1:Nat)):Int)+(1:Int)),112≤140737488355328,BlkEqv (.row 101 (4:Nat) (2:Nat) (catF (([]:List UInt8).length+(1:Nat)) (rowF encK KT.nil [x]) fun i j=>nthD (encK y) (((0:Nat)+i)*(4:Nat)+j))) (.row 101 (4:Nat) (2:Nat) (rowF encK KT.nil [x,y])),([]:List UInt8).length+(1:Nat)≤([]:List UInt8).length+(1:Nat),0+1≤1,inR .i64 (1+1)] ⟨rfl,fun _ _=>trivial,aS,i6,oM,aS,oM,oM,i6⟩ ?_
  exact za [(41,1105)] (again _ 2 oM oM)
 ·refine Wp.ent' kR (Ent.pubC (id:=41) (b:=289) (o:=3) (off:=0) (m:=2) (sz:=4) (n:=2) (e:=101) (e':=101) (cs:=[.int .i64 5,.int .i64 0,.str [],.row 4 41 0 2]) (f:=rowF encK .nil [x,y]) (m':=2) (f':=rowF encK .nil [x,y]) kR kR kR oM rfl (fun i _ j _=>by rw [Nat.zero_add]) rfl) ?_
  refine zg [] [false] [(bif decide ((2:Int)<(2:Int)) then e==(0:Int) else false)=false] rfl ?_
  exact zb []
theorem node_twoX6 (b:List UInt8) (hb:b.length≤30000000000000) (f p l:Nat) (hf:f<16) (hl:0<l) (hl2:l≤64) (hp:p<b.length) (hk:(b.getD p 0).toNat=6) {x:KT} {p1:Nat} {l1 e:Int} (he:e≠0) (cx:FnB Tryz.prog G 132 [rB b (p+1) ((l:Int)-1) 0] [.c (.ptr 0 0),.c (.int .i64 (17-(f:Int)))] [.agg (encK x)] [(0,rB b p1 l1 e)]):FnB Tryz.prog G 132 [rB b p l 0] [.c (.ptr 0 0),.c (.int .i64 (17-((f+1:Nat):Int)))] [.agg (encK ⟨6,0,[],1,rowF encK .nil [x]⟩)] [(0,rB b p1 l1 e)]:=by
 refine zf Tryz.func132 ?_
 have ht0:(bif (0:Int)==0 then bif decide ((l:Int)<1) then true else decide (17-((f+1:Nat):Int)>16) else false)=false:=by rw [decide_eq_false oM,decide_eq_false oM];rfl
 have c1:=num1 (G:=G) b p ((l:Int)-1) hb hp hk
 refine zg [(7,{cs:=[(1,cb [0] c1)]})] [false,false,false,false,false,false,false,true,true] [(bif (0:Int)==(0:Int) then bif decide ((l:Int)<(1:Int)) then true else decide ((17:Int)-(↑(f+(1:Nat)):Int)>(16:Int)) else false)=false,((0:Int) != (0:Int))=false,inR .i64 ((l:Int)-1),((↑(6:Nat):Int)==(1:Int))=false,((↑(6:Nat):Int)==(2:Int))=false,((↑(6:Nat):Int)==(3:Int))=false,((↑(6:Nat):Int)==(4:Int))=false,((↑(6:Nat):Int)==(5:Int))=false,((↑(6:Nat):Int)==(6:Int))=true,((↑(6:Nat):Int)==(6:Int))=true] ⟨aS,rfl,i6,rfl,rfl,rfl,rfl,rfl,rfl,rfl⟩ ?_
 have e1:=kid_new (e:=101) x
 have e2:=deep_D f
 refine zl (fun (j:Nat)=>match j with | 0=>kidSt b f 2 6 0 865 (p+1) ((l:Int)-1) 0 [] | _=>kidSt b f 2 6 1 865 p1 l1 e [x]) (fun j=>j≤1) (fun j=>1-j) 0 (Nat.zero_le _) ?_ [(1,1),(289,289)]
 intro j L hj again
 obtain rfl | rfl:j=0∨j=1:=by omega
 ·refine zg [(35,{cs:=[(5,cb [0] cx)],fm:=[(4,.c (.int .i64 ((17:Int)-(f:Int))))],bs:=[(7,.row 101 4 1 (rowF encK .nil [x]))]})] [true] [(bif decide ((0:Int)<(2:Int)) then (0:Int)==(0:Int) else false)=true,EqvI (.c (.int .i64 ((17:Int)-(↑(f+(1:Nat)):Int)+(1:Int)))) (.c (.int .i64 ((17:Int)-(f:Int)))),EqvD (.c (.int .i64 ((17:Int)-(↑(f+(1:Nat)):Int)+(1:Int)))) (.c (.int .i64 ((17:Int)-(f:Int)))),inR .i64 ((17:Int)-(↑(f+(1:Nat)):Int)+(1:Int)),56≤140737488355328,BlkEqv (.row 101 4 1 (catF 0 (fun (x x_1:Nat) => .nilif) fun i j=>nthD (encK x) ((0+i)*4+j))) (.row 101 4 1 (rowF encK KT.nil [x])),0+1≤1,inR .i64 (0+1)] ⟨rfl,fun _ _=>trivial,aS,i6,oM,aS,oM,i6⟩ ?_
  exact za [(41,1137)] (again _ 1 oM oM)
 ·refine Wp.ent' kR (Ent.pubC (id:=41) (b:=289) (o:=3) (off:=0) (m:=1) (sz:=4) (n:=1) (e:=101) (e':=101) (cs:=[.int .i64 6,.int .i64 0,.str [],.row 4 41 0 1]) (f:=rowF encK .nil [x]) (m':=1) (f':=rowF encK .nil [x]) kR kR kR oM rfl (fun i _ j _=>by rw [Nat.zero_add]) rfl) ?_
  have ht:(bif decide ((1:Int)<2) then e==0 else false)=false:=by simp [he]
  refine zg [] [false] [(bif decide ((1:Int)<(2:Int)) then e==(0:Int) else false)=false] (oN aS) ?_
  exact zb []
theorem node_two6 (b:List UInt8) (hb:b.length≤30000000000000) (f p l:Nat) (hf:f<16) (hl:0<l) (hl2:l≤64) (hp:p<b.length) (hk:(b.getD p 0).toNat=6) {x y:KT} {p1 p2:Nat} {l1 l2 e:Int} (cx:FnB Tryz.prog G 132 [rB b (p+1) ((l:Int)-1) 0] [.c (.ptr 0 0),.c (.int .i64 (17-(f:Int)))] [.agg (encK x)] [(0,rB b p1 l1 0)]) (cy:FnB Tryz.prog G 132 [rB b p1 l1 0] [.c (.ptr 0 0),.c (.int .i64 (17-(f:Int)))] [.agg (encK y)] [(0,rB b p2 l2 e)]):FnB Tryz.prog G 132 [rB b p l 0] [.c (.ptr 0 0),.c (.int .i64 (17-((f+1:Nat):Int)))] [.agg (encK ⟨6,0,[],2,rowF encK .nil [x,y]⟩)] [(0,rB b p2 l2 e)]:=by
 refine zf Tryz.func132 ?_
 have ht0:(bif (0:Int)==0 then bif decide ((l:Int)<1) then true else decide (17-((f+1:Nat):Int)>16) else false)=false:=by rw [decide_eq_false oM,decide_eq_false oM];rfl
 have c1:=num1 (G:=G) b p ((l:Int)-1) hb hp hk
 refine zg [(7,{cs:=[(1,cb [0] c1)]})] [false,false,false,false,false,false,false,true,true] [(bif (0:Int)==(0:Int) then bif decide ((l:Int)<(1:Int)) then true else decide ((17:Int)-(↑(f+(1:Nat)):Int)>(16:Int)) else false)=false,((0:Int) != (0:Int))=false,inR .i64 ((l:Int)-1),((↑(6:Nat):Int)==(1:Int))=false,((↑(6:Nat):Int)==(2:Int))=false,((↑(6:Nat):Int)==(3:Int))=false,((↑(6:Nat):Int)==(4:Int))=false,((↑(6:Nat):Int)==(5:Int))=false,((↑(6:Nat):Int)==(6:Int))=true,((↑(6:Nat):Int)==(6:Int))=true] ⟨aS,rfl,i6,rfl,rfl,rfl,rfl,rfl,rfl,rfl⟩ ?_
 have e1:=kid_new (e:=101) x
 have e2:=deep_D f
 have e3:BlkEqv (.row 101 4 (1+1) (catF 1 (rowF encK .nil [x]) (fun i j=>nthD (encK y) ((0+i)*4+j)))) (.row 101 4 (1+1) (rowF encK .nil [x,y])):=enc_app [x] y rfl
 refine zl (fun (j:Nat)=>match j with | 0=>kidSt b f 2 6 0 865 (p+1) ((l:Int)-1) 0 [] | 1=>kidSt b f 2 6 1 865 p1 l1 0 [x] | _=>kidSt b f 2 6 2 865 p2 l2 e [x,y]) (fun j=>j≤2) (fun j=>2-j) 0 (Nat.zero_le _) ?_ [(1,1),(289,289)]
 intro j L hj again
 obtain rfl | rfl | rfl:j=0∨j=1∨j=2:=by omega
 ·refine zg [(35,{cs:=[(5,cb [0] cx)],fm:=[(4,.c (.int .i64 ((17:Int)-(f:Int))))],bs:=[(7,.row 101 4 1 (rowF encK .nil [x]))]})] [true] [(bif decide ((0:Int)<(2:Int)) then (0:Int)==(0:Int) else false)=true,EqvI (.c (.int .i64 ((17:Int)-(↑(f+(1:Nat)):Int)+(1:Int)))) (.c (.int .i64 ((17:Int)-(f:Int)))),EqvD (.c (.int .i64 ((17:Int)-(↑(f+(1:Nat)):Int)+(1:Int)))) (.c (.int .i64 ((17:Int)-(f:Int)))),inR .i64 ((17:Int)-(↑(f+(1:Nat)):Int)+(1:Int)),56≤140737488355328,BlkEqv (.row 101 4 1 (catF 0 (fun (x x_1:Nat) => .nilif) fun i j=>nthD (encK x) ((0+i)*4+j))) (.row 101 4 1 (rowF encK KT.nil [x])),0+1≤1,inR .i64 (0+1)] ⟨rfl,fun _ _=>trivial,aS,i6,oM,aS,oM,i6⟩ ?_
  exact za [(41,1137)] (again _ 1 oM oM)
 ·refine zg [(35,{cs:=[(5,cb [0] cy)],fm:=[(4,.c (.int .i64 ((17:Int)-(f:Int))))],bs:=[(7,.row 101 4 2 (rowF encK .nil [x,y]))]})] [true] [(bif decide ((1:Int)<(2:Int)) then (0:Int)==(0:Int) else false)=true,EqvI (.c (.int .i64 ((17:Int)-(↑(f+(1:Nat)):Int)+(1:Int)))) (.c (.int .i64 ((17:Int)-(f:Int)))),EqvD (.c (.int .i64 ((17:Int)-(↑(f+(1:Nat)):Int)+(1:Int)))) (.c (.int .i64 ((17:Int)-(f:Int)))),inR .i64 ((17:Int)-(↑(f+(1:Nat)):Int)+(1:Int)),112≤140737488355328,BlkEqv (.row 101 (4:Nat) (2:Nat) (catF (([]:List UInt8).length+(1:Nat)) (rowF encK KT.nil [x]) fun i j=>nthD (encK y) (((0:Nat)+i)*(4:Nat)+j))) (.row 101 (4:Nat) (2:Nat) (rowF encK KT.nil [x,y])),([]:List UInt8).length+(1:Nat)≤([]:List UInt8).length+(1:Nat),0+1≤1,inR .i64 (1+1)] ⟨rfl,fun _ _=>trivial,aS,i6,oM,aS,oM,oM,i6⟩ ?_
  exact za [(41,1137)] (again _ 2 oM oM)
 ·refine Wp.ent' kR (Ent.pubC (id:=41) (b:=289) (o:=3) (off:=0) (m:=2) (sz:=4) (n:=2) (e:=101) (e':=101) (cs:=[.int .i64 6,.int .i64 0,.str [],.row 4 41 0 2]) (f:=rowF encK .nil [x,y]) (m':=2) (f':=rowF encK .nil [x,y]) kR kR kR oM rfl (fun i _ j _=>by rw [Nat.zero_add]) rfl) ?_
  refine zg [] [false] [(bif decide ((2:Int)<(2:Int)) then e==(0:Int) else false)=false] rfl ?_
  exact zb []
theorem node_twoX7 (b:List UInt8) (hb:b.length≤30000000000000) (f p l:Nat) (hf:f<16) (hl:0<l) (hl2:l≤64) (hp:p<b.length) (hk:(b.getD p 0).toNat=7) {x:KT} {p1:Nat} {l1 e:Int} (he:e≠0) (cx:FnB Tryz.prog G 132 [rB b (p+1) ((l:Int)-1) 0] [.c (.ptr 0 0),.c (.int .i64 (17-(f:Int)))] [.agg (encK x)] [(0,rB b p1 l1 e)]):FnB Tryz.prog G 132 [rB b p l 0] [.c (.ptr 0 0),.c (.int .i64 (17-((f+1:Nat):Int)))] [.agg (encK ⟨7,0,[],1,rowF encK .nil [x]⟩)] [(0,rB b p1 l1 e)]:=by
 refine zf Tryz.func132 ?_
 have ht0:(bif (0:Int)==0 then bif decide ((l:Int)<1) then true else decide (17-((f+1:Nat):Int)>16) else false)=false:=by rw [decide_eq_false oM,decide_eq_false oM];rfl
 have c1:=num1 (G:=G) b p ((l:Int)-1) hb hp hk
 refine zg [(7,{cs:=[(1,cb [0] c1)]})] [false,false,false,false,false,false,false,false,true] [(bif (0:Int)==(0:Int) then bif decide ((l:Int)<(1:Int)) then true else decide ((17:Int)-(↑(f+(1:Nat)):Int)>(16:Int)) else false)=false,((0:Int) != (0:Int))=false,inR .i64 ((l:Int)-1),((↑(7:Nat):Int)==(1:Int))=false,((↑(7:Nat):Int)==(2:Int))=false,((↑(7:Nat):Int)==(3:Int))=false,((↑(7:Nat):Int)==(4:Int))=false,((↑(7:Nat):Int)==(5:Int))=false,((↑(7:Nat):Int)==(6:Int))=false,((↑(7:Nat):Int)==(7:Int))=true] ⟨aS,rfl,i6,rfl,rfl,rfl,rfl,rfl,rfl,rfl⟩ ?_
 have e1:=kid_new (e:=101) x
 have e2:=deep_D f
 refine zl (fun (j:Nat)=>match j with | 0=>kidSt b f 2 7 0 897 (p+1) ((l:Int)-1) 0 [] | _=>kidSt b f 2 7 1 897 p1 l1 e [x]) (fun j=>j≤1) (fun j=>1-j) 0 (Nat.zero_le _) ?_ [(1,1),(289,289)]
 intro j L hj again
 obtain rfl | rfl:j=0∨j=1:=by omega
 ·refine zg [(35,{cs:=[(5,cb [0] cx)],fm:=[(4,.c (.int .i64 ((17:Int)-(f:Int))))],bs:=[(7,.row 101 4 1 (rowF encK .nil [x]))]})] [true] [(bif decide ((0:Int)<(2:Int)) then (0:Int)==(0:Int) else false)=true,EqvI (.c (.int .i64 ((17:Int)-(↑(f+(1:Nat)):Int)+(1:Int)))) (.c (.int .i64 ((17:Int)-(f:Int)))),EqvD (.c (.int .i64 ((17:Int)-(↑(f+(1:Nat)):Int)+(1:Int)))) (.c (.int .i64 ((17:Int)-(f:Int)))),inR .i64 ((17:Int)-(↑(f+(1:Nat)):Int)+(1:Int)),56≤140737488355328,BlkEqv (.row 101 4 1 (catF 0 (fun (x x_1:Nat) => .nilif) fun i j=>nthD (encK x) ((0+i)*4+j))) (.row 101 4 1 (rowF encK KT.nil [x])),0+1≤1,inR .i64 (0+1)] ⟨rfl,fun _ _=>trivial,aS,i6,oM,aS,oM,i6⟩ ?_
  exact za [(41,1169)] (again _ 1 oM oM)
 ·refine Wp.ent' kR (Ent.pubC (id:=41) (b:=289) (o:=3) (off:=0) (m:=1) (sz:=4) (n:=1) (e:=101) (e':=101) (cs:=[.int .i64 7,.int .i64 0,.str [],.row 4 41 0 1]) (f:=rowF encK .nil [x]) (m':=1) (f':=rowF encK .nil [x]) kR kR kR oM rfl (fun i _ j _=>by rw [Nat.zero_add]) rfl) ?_
  have ht:(bif decide ((1:Int)<2) then e==0 else false)=false:=by simp [he]
  refine zg [] [false] [(bif decide ((1:Int)<(2:Int)) then e==(0:Int) else false)=false] (oN aS) ?_
  exact zb []
theorem node_two7 (b:List UInt8) (hb:b.length≤30000000000000) (f p l:Nat) (hf:f<16) (hl:0<l) (hl2:l≤64) (hp:p<b.length) (hk:(b.getD p 0).toNat=7) {x y:KT} {p1 p2:Nat} {l1 l2 e:Int} (cx:FnB Tryz.prog G 132 [rB b (p+1) ((l:Int)-1) 0] [.c (.ptr 0 0),.c (.int .i64 (17-(f:Int)))] [.agg (encK x)] [(0,rB b p1 l1 0)]) (cy:FnB Tryz.prog G 132 [rB b p1 l1 0] [.c (.ptr 0 0),.c (.int .i64 (17-(f:Int)))] [.agg (encK y)] [(0,rB b p2 l2 e)]):FnB Tryz.prog G 132 [rB b p l 0] [.c (.ptr 0 0),.c (.int .i64 (17-((f+1:Nat):Int)))] [.agg (encK ⟨7,0,[],2,rowF encK .nil [x,y]⟩)] [(0,rB b p2 l2 e)]:=by
 refine zf Tryz.func132 ?_
 have ht0:(bif (0:Int)==0 then bif decide ((l:Int)<1) then true else decide (17-((f+1:Nat):Int)>16) else false)=false:=by rw [decide_eq_false oM,decide_eq_false oM];rfl
 have c1:=num1 (G:=G) b p ((l:Int)-1) hb hp hk
 refine zg [(7,{cs:=[(1,cb [0] c1)]})] [false,false,false,false,false,false,false,false,true] [(bif (0:Int)==(0:Int) then bif decide ((l:Int)<(1:Int)) then true else decide ((17:Int)-(↑(f+(1:Nat)):Int)>(16:Int)) else false)=false,((0:Int) != (0:Int))=false,inR .i64 ((l:Int)-1),((↑(7:Nat):Int)==(1:Int))=false,((↑(7:Nat):Int)==(2:Int))=false,((↑(7:Nat):Int)==(3:Int))=false,((↑(7:Nat):Int)==(4:Int))=false,((↑(7:Nat):Int)==(5:Int))=false,((↑(7:Nat):Int)==(6:Int))=false,((↑(7:Nat):Int)==(7:Int))=true] ⟨aS,rfl,i6,rfl,rfl,rfl,rfl,rfl,rfl,rfl⟩ ?_
 have e1:=kid_new (e:=101) x
 have e2:=deep_D f
 have e3:BlkEqv (.row 101 4 (1+1) (catF 1 (rowF encK .nil [x]) (fun i j=>nthD (encK y) ((0+i)*4+j)))) (.row 101 4 (1+1) (rowF encK .nil [x,y])):=enc_app [x] y rfl
 refine zl (fun (j:Nat)=>match j with | 0=>kidSt b f 2 7 0 897 (p+1) ((l:Int)-1) 0 [] | 1=>kidSt b f 2 7 1 897 p1 l1 0 [x] | _=>kidSt b f 2 7 2 897 p2 l2 e [x,y]) (fun j=>j≤2) (fun j=>2-j) 0 (Nat.zero_le _) ?_ [(1,1),(289,289)]
 intro j L hj again
 obtain rfl | rfl | rfl:j=0∨j=1∨j=2:=by omega
 ·refine zg [(35,{cs:=[(5,cb [0] cx)],fm:=[(4,.c (.int .i64 ((17:Int)-(f:Int))))],bs:=[(7,.row 101 4 1 (rowF encK .nil [x]))]})] [true] [(bif decide ((0:Int)<(2:Int)) then (0:Int)==(0:Int) else false)=true,EqvI (.c (.int .i64 ((17:Int)-(↑(f+(1:Nat)):Int)+(1:Int)))) (.c (.int .i64 ((17:Int)-(f:Int)))),EqvD (.c (.int .i64 ((17:Int)-(↑(f+(1:Nat)):Int)+(1:Int)))) (.c (.int .i64 ((17:Int)-(f:Int)))),inR .i64 ((17:Int)-(↑(f+(1:Nat)):Int)+(1:Int)),56≤140737488355328,BlkEqv (.row 101 4 1 (catF 0 (fun (x x_1:Nat) => .nilif) fun i j=>nthD (encK x) ((0+i)*4+j))) (.row 101 4 1 (rowF encK KT.nil [x])),0+1≤1,inR .i64 (0+1)] ⟨rfl,fun _ _=>trivial,aS,i6,oM,aS,oM,i6⟩ ?_
  exact za [(41,1169)] (again _ 1 oM oM)
 ·refine zg [(35,{cs:=[(5,cb [0] cy)],fm:=[(4,.c (.int .i64 ((17:Int)-(f:Int))))],bs:=[(7,.row 101 4 2 (rowF encK .nil [x,y]))]})] [true] [(bif decide ((1:Int)<(2:Int)) then (0:Int)==(0:Int) else false)=true,EqvI (.c (.int .i64 ((17:Int)-(↑(f+(1:Nat)):Int)+(1:Int)))) (.c (.int .i64 ((17:Int)-(f:Int)))),EqvD (.c (.int .i64 ((17:Int)-(↑(f+(1:Nat)):Int)+(1:Int)))) (.c (.int .i64 ((17:Int)-(f:Int)))),inR .i64 ((17:Int)-(↑(f+(1:Nat)):Int)+(1:Int)),112≤140737488355328,BlkEqv (.row 101 (4:Nat) (2:Nat) (catF (([]:List UInt8).length+(1:Nat)) (rowF encK KT.nil [x]) fun i j=>nthD (encK y) (((0:Nat)+i)*(4:Nat)+j))) (.row 101 (4:Nat) (2:Nat) (rowF encK KT.nil [x,y])),([]:List UInt8).length+(1:Nat)≤([]:List UInt8).length+(1:Nat),0+1≤1,inR .i64 (1+1)] ⟨rfl,fun _ _=>trivial,aS,i6,oM,aS,oM,oM,i6⟩ ?_
  exact za [(41,1169)] (again _ 2 oM oM)
 ·refine Wp.ent' kR (Ent.pubC (id:=41) (b:=289) (o:=3) (off:=0) (m:=2) (sz:=4) (n:=2) (e:=101) (e':=101) (cs:=[.int .i64 7,.int .i64 0,.str [],.row 4 41 0 2]) (f:=rowF encK .nil [x,y]) (m':=2) (f':=rowF encK .nil [x,y]) kR kR kR oM rfl (fun i _ j _=>by rw [Nat.zero_add]) rfl) ?_
  refine zg [] [false] [(bif decide ((2:Int)<(2:Int)) then e==(0:Int) else false)=false] rfl ?_
  exact zb []
def NodeR (G:Nat→Option (List Cell)) (b:List UInt8) (f p l:Nat):Prop:=∃ (x:KT) (p':Nat) (l' e:Int),rdOut (rdT b f p l) x p' l' e ∧
 FnB Tryz.prog G 132 [rB b p (l:Int) 0] [.c (.ptr 0 0),.c (.int .i64 (17-(f:Int)))] [.agg (encK x)] [(0,rB b p' l' e)]
theorem node_kids (b:List UInt8) (f p l:Nat) (hl:0<l) (ih:∀ p l,p≤b.length→l≤64→NodeR G b f p l) (hp:p<b.length) (hl2:l≤64) :
  ∃ (x:KT) (p':Nat) (l' e:Int),rdOut (rdT b f (p+1) (l-1)) x p' l' e∧FnB Tryz.prog G 132 [rB b (p+1) ((l:Int)-1) 0] [.c (.ptr 0 0),.c (.int .i64 (17-(f:Int)))] [.agg (encK x)] [(0,rB b p' l' e)]:=by
 have:=ih (p+1) (l-1) oM oM
 unfold NodeR at this
 rw [show ((l-1:Nat):Int)=(l:Int)-1 by omega] at this
 exact this
theorem node_ok (b:List UInt8) (hb:b.length≤30000000000000):∀ f,f≤16→∀ p l,p≤b.length→l≤64→NodeR G b f p l
 | 0,hf,p,l,hp,hl=>⟨_,_,_,_,(by show (4:Int)≠0; decide),node_deep b 0 p l hf hl (.inl rfl)⟩
 | f+1,hf,p,l,hp,hl2=>by
  have ih:=node_ok b hb f oM
  unfold NodeR
  rcases Nat.eq_zero_or_pos l with h0 | hl
  ·refine ⟨_,_,_,_,?_,node_deep b (f+1) p l hf hl2 (.inr h0)⟩
   rw [rdT,if_pos h0];show (4:Int)≠0;decide
  rw [rdT,if_neg oM]
  rcases Nat.lt_or_ge p b.length with hlt | hge
  ·rw [if_neg oM]
   generalize hk:(b.getD p 0).toNat=k
   by_cases k1:k=1
   ·subst k1
    rw [if_pos rfl]
    rcases Nat.lt_or_ge b.length (p+1+2) with h2 | h2
    ·exact ⟨_,_,_,_,(by rw [if_pos h2];show (1:Int)≠0;decide),node_a1 b hb f p l hf hl hl2 hlt hk h2⟩
    ·rw [if_neg oM]
     generalize hn:(beN b (p+1) 2).toNat=n
     rcases Nat.lt_or_ge 1024 n with h3 | h3
     ·exact ⟨_,_,_,_,(by rw [if_pos h3];show (3:Int)≠0;decide),node_a2 b hb f p l hf hl hl2 hlt hk h2 hn h3⟩
     ·rw [if_neg oM]
      rcases Nat.lt_or_ge b.length (p+1+2+n) with h4 | h4
      ·exact ⟨_,_,_,_,(by rw [if_pos h4];show (1:Int)≠0;decide),node_a3 b hb f p l hf hl hl2 hlt hk h2 hn h3 h4⟩
      ·exact ⟨_,_,_,_,(by rw [if_neg oM];exact ⟨rfl,rfl,by omega,rfl⟩),node_a4 b hb f p l hf hl hl2 hlt hk h2 hn h3 h4⟩
   rw [if_neg k1]
   by_cases k2:k=2
   ·subst k2
    rw [if_pos rfl]
    rcases Nat.lt_or_ge b.length (p+1+4) with h2 | h2
    ·exact ⟨_,_,_,_,(by rw [if_pos h2];show (1:Int)≠0;decide),node_n1 b hb f p l hf hl hl2 hlt hk h2⟩
    ·rw [if_neg oM]
     generalize hn:(beN b (p+1) 4).toNat=n
     rcases Nat.lt_or_ge 1073741824 n with h3 | h3
     ·exact ⟨_,_,_,_,(by rw [if_pos h3];show (3:Int)≠0;decide),node_n2 b hb f p l hf hl hl2 hlt hk h2 hn h3⟩
     ·exact ⟨_,_,_,_,(by rw [if_neg oM];exact ⟨rfl,rfl,by omega,rfl⟩),node_n3 b hb f p l hf hl hl2 hlt hk h2 hn h3⟩
   rw [if_neg k2]
   obtain ⟨x,p1,l1,e1,hr,c⟩:=node_kids (G:=G) b f p l hl ih hlt hl2
   by_cases k34:k=3∨k=4
   ·rw [if_pos k34]
    have hout:rdOut (match rdT b f (p+1) (l-1) with | none=>none | some (t,p1,l1)=>some (.one (k:Int) t,p1,l1)) ⟨(k:Int),0,[],1,rowF encK .nil [x]⟩ p1 l1 e1:=by
     revert hr
     cases rdT b f (p+1) (l-1) with
     | none=>exact fun h=>h
     | some t=>exact fun h=>⟨by rw [h.1]; rfl,h.2⟩
    rcases k34 with rfl | rfl
    ·exact ⟨_,_,_,_,hout,node_one3 b hb f p l oM hl hl2 hlt hk c⟩
    ·exact ⟨_,_,_,_,hout,node_one4 b hb f p l oM hl hl2 hlt hk c⟩
   rw [if_neg k34]
   by_cases k57:k=5∨k=6∨k=7
   ·rw [if_pos k57]
    cases h1:rdT b f (p+1) (l-1) with
    | none =>
     rw [h1] at hr
     have hr:e1≠0:=hr
     rcases k57 with rfl | rfl | rfl
     ·exact ⟨_,_,_,_,hr,node_twoX5 b hb f p l oM hl hl2 hlt hk hr c⟩
     ·exact ⟨_,_,_,_,hr,node_twoX6 b hb f p l oM hl hl2 hlt hk hr c⟩
     ·exact ⟨_,_,_,_,hr,node_twoX7 b hb f p l oM hl hl2 hlt hk hr c⟩
    | some t =>
     obtain ⟨t,q,m⟩:=t
     rw [h1] at hr
     obtain ⟨hx,hp1,hl1,he1⟩:=hr
     subst hx hp1 hl1 he1
     have hle:=rdT_le b f _ _ _ _ _ h1
     obtain ⟨y,p2,l2,e2,hr2,c2⟩:=ih p1 m hle.1 oM
     simp only []
     have hout:rdOut (match rdT b f p1 m with | none=>none | some (u,p2,l2)=>some (.two (k:Int) t u,p2,l2)) ⟨(k:Int),0,[],2,rowF encK .nil [toK t,y]⟩ p2 l2 e2:=by
      revert hr2
      cases rdT b f p1 m with
      | none=>exact fun h=>h
      | some t=>exact fun h=>⟨by rw [h.1]; rfl,h.2⟩
     rcases k57 with rfl | rfl | rfl
     ·exact ⟨_,_,_,_,hout,node_two5 b hb f p l oM hl hl2 hlt hk c c2⟩
     ·exact ⟨_,_,_,_,hout,node_two6 b hb f p l oM hl hl2 hlt hk c c2⟩
     ·exact ⟨_,_,_,_,hout,node_two7 b hb f p l oM hl hl2 hlt hk c c2⟩
   rw [if_neg k57]
   exact ⟨_,_,_,_,(by show (2:Int)≠0;decide),node_bad b hb f p l oM hl hl2 hlt hk oM⟩
  ·rw [if_pos oM]
   exact ⟨_,_,_,_,(by show (1:Int)≠0;decide),node_short b hb f p l oM hl hl2 oM⟩
def oneT (b:List UInt8):Option Tm:=match rdT b 16 0 64 with
 | some (t,p,_)=>if p=b.length then some t else none
 | none=>none
def innT (s:List UInt8):Option Tm:=match dec8 s with
 | some o=>oneT o
 | none=>none
theorem take2_good (b:List UInt8) (hb:b.length≤30000000000000) {t:Tm} {p l:Nat} (h:rdT b 16 0 64=some (t,p,l)):Pur Tryz.prog G 125 [.c (.sl 1 b.length (bytesF b))] [.agg (encK (toK t)),.c (.int .i64 (p:Int)),.c (.int .i64 0)]:=by
 refine zp Tryz.func125 ?_
 obtain ⟨x,p',l',e,hr,c⟩:=node_ok (G:=G) b hb 16 dC 0 64 oM dC
 rw [h] at hr
 obtain ⟨rfl,rfl,rfl,rfl⟩:=hr
 refine zg [(2,{cs:=[(1,cb [80] c)]})] [false] [((0:Int) != (0:Int))=false] rfl ?_
 exact zr
theorem take2_bad (b:List UInt8) (hb:b.length≤30000000000000) (h:rdT b 16 0 64=none):∃ e:Int,e≠0∧Pur Tryz.prog G 125 [.c (.sl 1 b.length (bytesF b))] [.agg [.int .i64 0,.int .i64 0,.str [],.nilsl],.c (.int .i64 0),.c (.int .i64 e)]:=by
 obtain ⟨x,p',l',e,hr,c⟩:=node_ok (G:=G) b hb 16 dC 0 64 oM dC
 rw [h] at hr
 have hr:e≠0:=hr
 refine ⟨e,hr,?_⟩
 refine zp Tryz.func125 ?_
 have ht:(e != 0)=true:=by simp [hr]
 refine zg [(2,{cs:=[(1,cb [80] c)]})] [true] [(e != (0:Int))=true] (oN aS) ?_
 exact zr
theorem one2_good (b:List UInt8) (hb:b.length≤30000000000000) {t:Tm} (h:oneT b=some t):Pur Tryz.prog G 108 [.c (.sl 1 b.length (bytesF b))] [.agg (encK (toK t)),.c (.int .i64 0)]:=by
 unfold oneT at h
 split at h
 ·rename_i t2 p l h1
  split at h
  ·rename_i hp
   simp only [Option.some.injEq] at h
   subst h hp
   refine zp Tryz.func108 ?_
   have c:=take2_good (G:=G) b hb h1
   have ht:(bif (0:Int)==0 then decide ((b.length:Int)<(b.length:Int)) else false)=false:=by simp
   refine zg [(1,{cs:=[(1,pc c)]})] [false,false] [(bif (0:Int)==(0:Int) then decide ((b.length:Int)<(b.length:Int)) else false)=false,((0:Int) != (0:Int))=false] ⟨aS,rfl⟩ ?_
   exact zr
  ·cases h
 ·cases h
theorem one2_bad (b:List UInt8) (hb:b.length≤30000000000000) (h:oneT b=none):∃ e:Int,e≠0∧Pur Tryz.prog G 108 [.c (.sl 1 b.length (bytesF b))] [.agg [.int .i64 0,.int .i64 0,.str [],.nilsl],.c (.int .i64 e)]:=by
 unfold oneT at h
 split at h
 ·rename_i t2 p l h1
  split at h
  ·cases h
  ·rename_i hp
   refine ⟨5,by decide,?_⟩
   refine zp Tryz.func108 ?_
   have c:=take2_good (G:=G) b hb h1
   have hle:=rdT_le b _ _ _ _ _ _ h1
   have ht:(bif (0:Int)==0 then decide ((p:Int)<(b.length:Int)) else false)=true:=by simp;omega
   refine zg [(1,{cs:=[(1,pc c)]})] [true,true] [(bif (0:Int)==(0:Int) then decide ((p:Int)<(b.length:Int)) else false)=true,((5:Int) != (0:Int))=true] ⟨aS,rfl⟩ ?_
   exact zr
 ·rename_i h1
  obtain ⟨e,he,c⟩:=take2_bad (G:=G) b hb h1
  refine ⟨e,he,?_⟩
  refine zp Tryz.func108 ?_
  have ht:(bif e==0 then decide ((0:Int)<(b.length:Int)) else false)=false:=by simp [he]
  have ht2:(e != 0)=true:=by simp [he]
  refine zg [(1,{cs:=[(1,pc c)]})] [false,true] [(bif e==(0:Int) then decide ((0:Int)<(b.length:Int)) else false)=false,(e != (0:Int))=true] ⟨aS,(show (e != (0:Int))=true from aS)⟩ ?_
  exact zr
theorem slB_D (o:List UInt8):EqvD (.c (slB o)) (.c (.sl 1 o.length (bytesF o))):=by
 cases o with
 | nil=>exact nil_sl
 | cons a r=>exact fun _ _ _ h=>h
theorem inner9_good (s:List UInt8) (hs:s.length≤30000000000000) {t:Tm} (h:innT s=some t) (hlen:∀ o,dec8 s=some o→o.length≤30000000000000):Pur Tryz.prog G 84 [.c (.str s)] [.agg (encK (toK t)),.c (.bool true)]:=by
 unfold innT at h
 split at h
 ·rename_i o ho
  have c1:=dec8_ok (G:=G) s hs
  rw [decR_some ho] at c1
  have c2:=one2_good (G:=G) o (hlen o ho) h
  have e1:=slB_D o
  refine zp Tryz.func84 ?_
  cases o with
  | nil =>
   have c1:Pur Tryz.prog G 107 [.c (.str s)] [.c .nilsl,.c (.int .i64 0)]:=c1
   have c2:Pur Tryz.prog G 108 [.c (.sl 1 0 (bytesF []))] [.agg (encK (toK t)),.c (.int .i64 0)]:=c2
   have e1:=nil_sl (f:=bytesF [])
   refine zg [(4,{cs:=[(1,pc c2)],fm:=[(0,.c (.sl 1 0 (bytesF [])))]}),(1,{cs:=[(1,pc c1)]})] [false] [((0:Int) != (0:Int))=false,EqvI (.c .nilsl) (.c (.sl 1 0 (bytesF []))),EqvD (.c .nilsl) (.c (.sl 1 0 (bytesF [])))] ⟨rfl,fun _ _=>trivial,(show EqvD (.c .nilsl) (.c (.sl (1:Nat) (0:Nat) (bytesF []))) from aS)⟩ ?_
   exact zr
  | cons a r =>
   have c1:Pur Tryz.prog G 107 [.c (.str s)] [.c (.sl 1 (a::r).length (bytesF (a::r))),.c (.int .i64 0)]:=c1
   generalize a::r=o at c1 c2
   refine zg [(1,{cs:=[(1,pc c1)]}),(4,{cs:=[(1,pc c2)]})] [false] [((0:Int) != (0:Int))=false] rfl ?_
   exact zr
 ·cases h
theorem inner9_bad (s:List UInt8) (hs:s.length≤30000000000000) (h:innT s=none) (hlen:∀ o,dec8 s=some o→o.length≤30000000000000):Pur Tryz.prog G 84 [.c (.str s)] [.agg [.int .i64 0,.int .i64 0,.str [],.nilsl],.c (.bool false)]:=by
 have c1:=dec8_ok (G:=G) s hs
 unfold innT at h
 refine zp Tryz.func84 ?_
 cases ho:dec8 s with
 | none =>
  rw [decR_none ho] at c1
  refine zg [(1,{cs:=[(1,pc c1)]})] [true] [((3:Int) != (0:Int))=true] rfl ?_
  exact zr
 | some o =>
  rw [decR_some ho] at c1
  rw [ho] at h
  obtain ⟨e,he,c2⟩:=one2_bad (G:=G) o (hlen o ho) h
  have ht:(e==0)=false:=by simp [he]
  cases o with
  | nil =>
   have c1:Pur Tryz.prog G 107 [.c (.str s)] [.c .nilsl,.c (.int .i64 0)]:=c1
   have c2:Pur Tryz.prog G 108 [.c (.sl 1 0 (bytesF []))] [.agg [.int .i64 0,.int .i64 0,.str [],.nilsl],.c (.int .i64 e)]:=c2
   have e1:=nil_sl (f:=bytesF [])
   refine zg [(4,{cs:=[(1,pc c2)],fm:=[(0,.c (.sl 1 0 (bytesF [])))]}),(1,{cs:=[(1,pc c1)]})] [false] [((0:Int) != (0:Int))=false,EqvI (.c .nilsl) (.c (.sl 1 0 (bytesF []))),EqvD (.c .nilsl) (.c (.sl 1 0 (bytesF [])))] ⟨rfl,fun _ _=>trivial,(show EqvD (.c .nilsl) (.c (.sl (1:Nat) (0:Nat) (bytesF []))) from aS)⟩ ?_
   exact zS [.agg [.int .i64 (0:Int),.int .i64 (0:Int),.str [],.nilsl],.c (.bool (e==(0:Int)))] (by simp only [Int.ofNat_eq_natCast,Int.toNat_natCast,List.take_length,List.drop_zero, *])
  | cons a r =>
   have c1:Pur Tryz.prog G 107 [.c (.str s)] [.c (.sl 1 (a::r).length (bytesF (a::r))),.c (.int .i64 0)]:=c1
   generalize a::r=o at c1 c2
   refine zg [(1,{cs:=[(1,pc c1)]}),(4,{cs:=[(1,pc c2)]})] [false] [((0:Int) != (0:Int))=false] rfl ?_
   exact zS [.agg [.int .i64 (0:Int),.int .i64 (0:Int),.str [],.nilsl],.c (.bool (e==(0:Int)))] (by simp only [Int.ofNat_eq_natCast,Int.toNat_natCast,List.take_length,List.drop_zero, *])
theorem rd8_len:∀ (r:List UInt8) (v:Int) (bits:Nat) (out o:List UInt8),rd8 r v bits out=some o→o.length≤out.length+r.length
 | [],_,_,out,o,h=>by simp only [rd8,Option.some.injEq] at h; subst h; simp
 | c::r,v,bits,out,o,h=>by
  unfold rd8 at h
  split at h
  ·cases h
  ·split at h
   ·have:=rd8_len r _ _ _ _ h;simp only [List.length_cons];omega
   ·have:=rd8_len r _ _ _ _ h
    simp only [List.length_append,List.length_cons,List.length_nil] at this ⊢;omega
theorem dec8_len {s o:List UInt8} (h:dec8 s=some o):o.length≤s.length:=by
 unfold dec8 at h
 split at h
 ·cases h
 ·rename_i o2 h2
  split at h
  ·simp only [Option.some.injEq] at h
   subst h
   have:=rd8_len s 0 0 [] _ h2
   simpa using this
  ·cases h
def shapeT (s:List UInt8):Bool := !(bif bif decide ((s.length:Int)<2) then true else ((s.getD 0 0).toNat:Int) != 126 then true else ((s.getD (s.length-1) 0).toNat:Int) != 126)
def coreT (s:List UInt8):List UInt8:=(s.take (s.length-1)).drop 1
def readT (s:List UInt8):Option Tm:=if shapeT s=true then innT (coreT s) else none
theorem inner9_ok (s:List UInt8) (hs:s.length≤30000000000000):(∃ t,innT s=some t∧Pur Tryz.prog G 84 [.c (.str s)] [.agg (encK (toK t)),.c (.bool true)])∨(innT s=none∧Pur Tryz.prog G 84 [.c (.str s)] [.agg [.int .i64 0,.int .i64 0,.str [],.nilsl],.c (.bool false)]):=by
 have hl:∀ o,dec8 s=some o→o.length≤30000000000000:=fun o h=>by have:=dec8_len h;omega
 cases h:innT s with
 | none=>exact .inr ⟨rfl,inner9_bad s hs h hl⟩
 | some t=>exact .inl ⟨t,rfl,inner9_good s hs h hl⟩
theorem coreT_len (s:List UInt8):(coreT s).length≤s.length:=by
 unfold coreT;rw [List.length_drop,List.length_take];omega
theorem read9_ok (s:List UInt8) (hs:s.length≤30000000000000):(∃ t,readT s=some t∧Pur Tryz.prog G 66 [.c (.str s)] [.agg (encK (toK t)),.c (.bool true)])∨(readT s=none∧Pur Tryz.prog G 66 [.c (.str s)] [.agg [.int .i64 0,.int .i64 0,.str [],.nilsl],.c (.bool false)]):=by
 unfold readT
 by_cases hsh:shapeT s=true
 ·rw [if_pos hsh]
  have hsh2:=hsh
  unfold shapeT at hsh2
  rw [Bool.not_eq_true'] at hsh2
  have hge:2≤s.length:=by
   rcases Nat.lt_or_ge s.length 2 with h | h
   ·rw [decide_eq_true oM] at hsh2;cases hsh2
   ·exact h
  have e1:EqvD (.c (.str (List.drop 1 (List.take (s.length-1) s)))) (.c (.str (coreT s))):=fun _ _ _ h=>h
  have e2:EqvD (.c (.int .i64 ((s.length:Int)-1))) (.c (.int .i64 ((s.length-1:Nat):Int))):=eqvD_of (by rw [show (s.length:Int)-1=((s.length-1:Nat):Int) by omega])
  rcases inner9_ok (G:=G) (coreT s) (Nat.le_trans (coreT_len s) hs) with ⟨t,ht,c⟩ | ⟨ht,c⟩
  ·refine .inl ⟨t,ht,?_⟩
   refine zp Tryz.func66 ?_
   clear ht hsh
   refine zg [(1,{fm:=[(12,.c (.int .i64 ((s.length-1:Nat):Int)))]}),(3,{cs:=[(5,pc c)],fm:=[(3,.c (.int .i64 ((s.length-1:Nat):Int))),(4,.c (.str (coreT s)))]})] [false] [decide ((s.length:Int)<(2:Int))=false→(0:Int)≤(0:Int)∧(0:Int)<(s.length:Int),EqvI (.c (.int .i64 ((s.length:Int)-(1:Int)))) (.c (.int .i64 (↑(s.length-(1:Nat)):Int))),(bif decide ((s.length:Int)<(2:Int)) then true else (↑(s.getD (0:Nat) (0:UInt8)).toNat:Int) != (126:Int))=false→EqvD (.c (.int .i64 ((s.length:Int)-(1:Int)))) (.c (.int .i64 (↑(s.length-(1:Nat)):Int))),(bif decide ((s.length:Int)<(2:Int)) then true else (↑(s.getD (0:Nat) (0:UInt8)).toNat:Int) != (126:Int))=false→inR .i64 ((s.length:Int)-(1:Int)),(bif decide ((s.length:Int)<(2:Int)) then true else (↑(s.getD (0:Nat) (0:UInt8)).toNat:Int) != (126:Int))=false→(0:Int)≤(↑(s.length-(1:Nat)):Int)∧(↑(s.length-(1:Nat)):Int)<(s.length:Int),(bif bif decide ((s.length:Int)<(2:Int)) then true else (↑(s.getD (0:Nat) (0:UInt8)).toNat:Int) != (126:Int) then true else (↑(s.getD (s.length-(1:Nat)) (0:UInt8)).toNat:Int) != (126:Int))=false,EqvI (.c (.int .i64 ((s.length:Int)-(1:Int)))) (.c (.int .i64 (↑(s.length-(1:Nat)):Int))),EqvD (.c (.int .i64 ((s.length:Int)-(1:Int)))) (.c (.int .i64 (↑(s.length-(1:Nat)):Int))),inR .i64 ((s.length:Int)-1),EqvI (.c (.str (List.drop (1:Nat) (List.take (Int.ofNat (s.length-(1:Nat))).toNat s)))) (.c (.str (coreT s))),EqvD (.c (.str (List.drop (1:Nat) (List.take (Int.ofNat (s.length-(1:Nat))).toNat s)))) (.c (.str (coreT s))),(0:Int)≤Int.ofNat (1)∧Int.ofNat (1)≤Int.ofNat (s.length-(1:Nat))∧Int.ofNat (s.length-(1:Nat))≤(s.length:Int)] ⟨oM,fun _ _=>trivial,(by intro _;assumption),(fun _=>i6),oM,aS,fun _ _=>trivial,aS,i6,fun _ _=>trivial,aS,⟨dC,⟨sO,(by simp;done)⟩⟩⟩ ?_
   exact zr
  ·refine .inr ⟨ht,?_⟩
   refine zp Tryz.func66 ?_
   clear ht hsh
   refine zg [(1,{fm:=[(12,.c (.int .i64 ((s.length-1:Nat):Int)))]}),(3,{cs:=[(5,pc c)],fm:=[(3,.c (.int .i64 ((s.length-1:Nat):Int))),(4,.c (.str (coreT s)))]})] [false] [decide ((s.length:Int)<(2:Int))=false→(0:Int)≤(0:Int)∧(0:Int)<(s.length:Int),EqvI (.c (.int .i64 ((s.length:Int)-(1:Int)))) (.c (.int .i64 (↑(s.length-(1:Nat)):Int))),(bif decide ((s.length:Int)<(2:Int)) then true else (↑(s.getD (0:Nat) (0:UInt8)).toNat:Int) != (126:Int))=false→EqvD (.c (.int .i64 ((s.length:Int)-(1:Int)))) (.c (.int .i64 (↑(s.length-(1:Nat)):Int))),(bif decide ((s.length:Int)<(2:Int)) then true else (↑(s.getD (0:Nat) (0:UInt8)).toNat:Int) != (126:Int))=false→inR .i64 ((s.length:Int)-(1:Int)),(bif decide ((s.length:Int)<(2:Int)) then true else (↑(s.getD (0:Nat) (0:UInt8)).toNat:Int) != (126:Int))=false→(0:Int)≤(↑(s.length-(1:Nat)):Int)∧(↑(s.length-(1:Nat)):Int)<(s.length:Int),(bif bif decide ((s.length:Int)<(2:Int)) then true else (↑(s.getD (0:Nat) (0:UInt8)).toNat:Int) != (126:Int) then true else (↑(s.getD (s.length-(1:Nat)) (0:UInt8)).toNat:Int) != (126:Int))=false,EqvI (.c (.int .i64 ((s.length:Int)-(1:Int)))) (.c (.int .i64 (↑(s.length-(1:Nat)):Int))),EqvD (.c (.int .i64 ((s.length:Int)-(1:Int)))) (.c (.int .i64 (↑(s.length-(1:Nat)):Int))),inR .i64 ((s.length:Int)-1),EqvI (.c (.str (List.drop (1:Nat) (List.take (Int.ofNat (s.length-(1:Nat))).toNat s)))) (.c (.str (coreT s))),EqvD (.c (.str (List.drop (1:Nat) (List.take (Int.ofNat (s.length-(1:Nat))).toNat s)))) (.c (.str (coreT s))),(0:Int)≤Int.ofNat (1)∧Int.ofNat (1)≤Int.ofNat (s.length-(1:Nat))∧Int.ofNat (s.length-(1:Nat))≤(s.length:Int)] ⟨oM,fun _ _=>trivial,(by intro _;assumption),(fun _=>i6),oM,aS,fun _ _=>trivial,aS,i6,fun _ _=>trivial,aS,⟨dC,⟨sO,(by simp;done)⟩⟩⟩ ?_
   exact zr
 ·rw [if_neg hsh]
  refine .inr ⟨rfl,?_⟩
  have hsh2:(bif bif decide ((s.length:Int)<2) then true else ((s.getD 0 0).toNat:Int) != 126 then true else ((s.getD (s.length-1) 0).toNat:Int) != 126)=true:=by
   have h2:=eq_false_of_ne_true hsh
   exact (Bool.not_eq_false' _).mp h2
  refine zp Tryz.func66 ?_
  by_cases h2:s.length<2
  ·have ht:decide ((s.length:Int)<2)=true:=decide_eq_true oM
   refine zg [(1,{grd:=[(4,false),(5,false),(6,false),(7,true),(9,false),(10,false),(11,false),(12,false),(13,false),(14,false),(15,true)]})] [true] [decide ((s.length:Int)<2) = !false,decide ((s.length:Int)<2) = !false,decide ((s.length:Int)<2) = !false,decide ((s.length:Int)<2)=true,true = !false,true = !false,true = !false,true = !false,true = !false,true = !false,true=true,true=true] ⟨aS,aS,aS,aS,rfl,rfl,rfl,rfl,rfl,rfl,rfl,rfl⟩ ?_
   exact zr
  ·have e2:EqvD (.c (.int .i64 ((s.length:Int)-1))) (.c (.int .i64 ((s.length-1:Nat):Int))):=eqvD_of (by rw [show (s.length:Int)-1=((s.length-1:Nat):Int) by omega])
   clear hsh
   refine zg [(1,{fm:=[(12,.c (.int .i64 ((s.length-1:Nat):Int)))]})] [true] [decide ((s.length:Int)<(2:Int))=false→(0:Int)≤(0:Int)∧(0:Int)<(s.length:Int),EqvI (.c (.int .i64 ((s.length:Int)-(1:Int)))) (.c (.int .i64 (↑(s.length-(1:Nat)):Int))),(bif decide ((s.length:Int)<(2:Int)) then true else (↑(s.getD (0:Nat) (0:UInt8)).toNat:Int) != (126:Int))=false→EqvD (.c (.int .i64 ((s.length:Int)-(1:Int)))) (.c (.int .i64 (↑(s.length-(1:Nat)):Int))),(bif decide ((s.length:Int)<(2:Int)) then true else (↑(s.getD (0:Nat) (0:UInt8)).toNat:Int) != (126:Int))=false→inR .i64 ((s.length:Int)-(1:Int)),(bif decide ((s.length:Int)<(2:Int)) then true else (↑(s.getD (0:Nat) (0:UInt8)).toNat:Int) != (126:Int))=false→(0:Int)≤(↑(s.length-(1:Nat)):Int)∧(↑(s.length-(1:Nat)):Int)<(s.length:Int),(bif bif decide ((s.length:Int)<(2:Int)) then true else (↑(s.getD (0:Nat) (0:UInt8)).toNat:Int) != (126:Int) then true else (↑(s.getD (s.length-(1:Nat)) (0:UInt8)).toNat:Int) != (126:Int))=true] ⟨oM,fun _ _=>trivial,(by intro _;assumption),(fun _=>i6),oM,(show (bif bif decide ((↑s.length:Int)<(2:Int)) then true else (↑(s.getD (0:Nat) (0:UInt8)).toNat:Int) != (126:Int) then true else (↑(s.getD (s.length-(1:Nat)) (0:UInt8)).toNat:Int) != (126:Int))=true from aS)⟩ ?_
   exact zr
def cB (b:List UInt8) (p:Nat) (c:Int):Blk := .box 199 [.sl 1 b.length (bytesF b),.int .i64 (p:Int),.int .i64 c]
def errC (e:Int):Cell := .ifc 40 none (fun _ => .int .i64 e)
theorem cut_D (b:List UInt8) (p n:Nat) (h:p+n≤b.length):EqvD (.c (.sl 1 (p+n-p) (fun i j=>bytesF b (p+i) j))) (.c (.sl 1 n (bytesF ((b.drop p).take n)))):=EqvD.sl oM (fun i hi j hj=>by
 show Cell.int .u8 _=Cell.int .u8 _
 have hi2:i<n:=by omega
 rw [List.getD_eq_getElem?_getD,List.getD_eq_getElem?_getD,List.getElem?_take,if_pos hi2,List.getElem?_drop])
theorem take_good (b:List UInt8) (hb:b.length≤30000000000000) (p n:Nat) (c:Int) (hp:p+n≤b.length):FnB Tryz.prog G 178 [cB b p c] [.c (.ptr 0 0),.c (.int .i64 (n:Int))] [.c (.sl 1 n (bytesF ((b.drop p).take n))),.c .nilif] [(0,cB b (p+n) c)]:=by
 refine zf Tryz.func178 ?_
 have ht:decide ((b.length:Int)-(p:Int)<(n:Int))=false:=decide_eq_false oM
 have e1:=cut_D b p n hp
 refine zg [(3,{fm:=[(20,.c (.sl 1 n (bytesF ((b.drop p).take n))))]})] [false] [inR .i64 ((b.length:Int)-(p:Int)),decide ((b.length:Int)-(p:Int)<(n:Int))=false,inR .i64 ((p:Int)+(n:Int)),inR .i64 ((p:Int)+(n:Int)),EqvI (.c (.sl 1 ((Int.ofNat (p+n)).toNat-(Int.ofNat p).toNat) fun i j=>bytesF b ((Int.ofNat p).toNat+i) j)) (.c (.sl 1 n (bytesF (List.take n (List.drop p b))))),EqvD (.c (.sl 1 ((Int.ofNat (p+n)).toNat-(Int.ofNat p).toNat) fun i j=>bytesF b ((Int.ofNat p).toNat+i) j)) (.c (.sl 1 n (bytesF (List.take n (List.drop p b))))),(0:Int)≤Int.ofNat p∧Int.ofNat p≤Int.ofNat (p+n)∧Int.ofNat (p+n)≤Int.ofNat (p+n)∧Int.ofNat (p+n)≤(b.length:Int),inR .i64 ((p:Int)+(n:Int))] ⟨i6,aS,i6,i6,fun _ _=>trivial,aS,⟨(by simp;done),⟨sO,⟨oM,sO⟩⟩⟩,i6⟩ ?_
 exact zb []
theorem take_short (b:List UInt8) (hb:b.length≤30000000000000) (p n:Nat) (c:Int) (hn:n≤2000) (hpl:p≤b.length) (hp:b.length<p+n):FnB Tryz.prog G 178 [cB b p c] [.c (.ptr 0 0),.c (.int .i64 (n:Int))] [.c .nilsl,.c (errC 1)] [(0,cB b p c)]:=by
 refine zf Tryz.func178 ?_
 have ht:decide ((b.length:Int)-(p:Int)<(n:Int))=true:=decide_eq_true oM
 refine zg [] [true] [inR .i64 ((b.length:Int)-(p:Int)),decide ((b.length:Int)-(p:Int)<(n:Int))=true] ⟨i6,(show decide ((↑b.length:Int)-(↑p:Int)<(↑n:Int))=true from aS)⟩ ?_
 exact zb []
theorem or64 (x y:Int) (hx:0≤x∧x<16777216) (hy:0≤y∧y<256):bitsI .or .i64 (x*256) y=x*256+y:=by
 obtain ⟨a,rfl⟩:=Int.eq_ofNat_of_zero_le hx.1
 obtain ⟨b,rfl⟩:=Int.eq_ofNat_of_zero_le hy.1
 have hor:a*256 ||| b=a*256+b:=by
  have:=Nat.two_pow_add_eq_or_of_lt (show b<2^8 by omega) a
  rw [show 2^8*a=a*256 by omega] at this;exact this.symm
 have e:(BitVec.ofInt 64 ((a:Int)*256) ||| BitVec.ofInt 64 (b:Int)).toNat=a*256+b:=by
  rw [BitVec.toNat_or,BitVec.toNat_ofInt,BitVec.toNat_ofInt]
  rw [show ((a:Int)*256%((2^64:Nat):Int)).toNat=a*256 by omega,show ((b:Int)%((2^64:Nat):Int)).toNat=b by omega,hor]
 show IntKind.i64.wrap ((BitVec.ofInt 64 ((a:Int)*256) ||| BitVec.ofInt 64 (b:Int)).toNat)=_
 rw [e,wrap64 oM oM];simp
theorem numC_short (b:List UInt8) (hb:b.length≤30000000000000) (p n:Nat) (c most:Int) (hn:n≤4) (hpl:p≤b.length) (hp:b.length<p+n):FnB Tryz.prog G 180 [cB b p c] [.c (.ptr 0 0),.c (.int .i64 (n:Int)),.c (.int .i64 most)] [.c (.int .i64 0),.c (errC 1)] [(0,cB b p c)]:=by
 refine zf Tryz.func180 ?_
 have c1:=take_short (G:=G) b hb p n c oM hpl hp
 refine zg [(1,{cs:=[(2,cb [0] c1)]})] [true] [(!false)=true] rfl ?_
 exact zb []
theorem numC_good (b:List UInt8) (hb:b.length≤30000000000000) (p n:Nat) (c most:Int) (hn:n≤4) (hp:p+n≤b.length) (hm:(beN b p n≤most)):FnB Tryz.prog G 180 [cB b p c] [.c (.ptr 0 0),.c (.int .i64 (n:Int)),.c (.int .i64 most)] [.c (.int .i64 (beN b p n)),.c .nilif] [(0,cB b (p+n) c)]:=by
 refine zf Tryz.func180 ?_
 have c1:=take_good (G:=G) b hb p n c hp
 refine zg [(1,{cs:=[(2,cb [0] c1)]})] [false] [(!true)=false] rfl ?_
 refine zl (fun (k:Nat)=>⟨[(2,.v (.c (.int .i64 most))),(10,.v (.c (.int .i64 (beN b p k)))),(22,.v (.c (.sl (1:Nat) n (bytesF (List.take n (List.drop p b)))))),(23,.v (.c (.int .i64 (↑n:Int)))),(24,.v (.c (.int .i64 (k:Int))))],[(0,cB b (p+n) c)],257⟩) (fun k=>k≤n) (fun k=>n-k) 0 (Nat.zero_le _) ?_
 intro k L hk again
 have hr:=beN_big b p k oM
 rcases Nat.lt_or_ge k n with hlt | hge
 ·have h4:=beN_rng b p k oM
  have hr3:beN b p k<16777216:=by
   have:k=0∨k=1∨k=2∨k=3:=by omega
   rcases this with rfl | rfl | rfl | rfl<;>simp at h4<;>omega
  have hc:=UInt8.toNat_lt (b.getD (p+k) 0)
  have hB:((b.drop p).take n).getD k 0=b.getD (p+k) 0:=by
   rw [List.getD_eq_getElem?_getD,List.getD_eq_getElem?_getD,List.getElem?_take,if_pos hlt,List.getElem?_drop]
  have e1:EqvD (.c (.int .u8 ((((b.drop p).take n).getD k 0).toNat:Int))) (.c (.int .u8 ((b.getD (p+k) 0).toNat:Int))):=eqvD_of (by rw [hB])
  have e2:EqvD (.c (.int .i64 (IntKind.i64.wrap (beN b p k*2^8)))) (.c (.int .i64 (beN b p k*256))):=eqvD_of (by rw [show beN b p k*2^8=beN b p k*256 from rfl,wrap64 oM oM])
  have e3:=wrapU (b.getD (p+k) 0)
  have e4:EqvD (.c (.int .i64 (bitsI .or .i64 (beN b p k*256) ((b.getD (p+k) 0).toNat:Int)))) (.c (.int .i64 (beN b p (k+1)))):=eqvD_of (by rw [or64 _ _ oM oM];rfl)
  have ht1:decide ((k:Int)<(n:Int))=true:=decide_eq_true oM
  clear h4 hB
  refine zg [(7,{fm:=[(1,.c (.int .u8 ((b.getD (p+k) 0).toNat:Int)))]}),(8,{fm:=[(1,.c (.int .i64 (beN b p k*256))),(3,.c (.int .i64 ((b.getD (p+k) 0).toNat:Int))),(4,.c (.int .i64 (beN b p (k+1))))]})] [true] [decide ((k:Int)<(n:Int))=true,(0:Int)≤(k:Int)∧(k:Int)<(n:Int),EqvD (.c (bytesF (List.take n (List.drop p b)) k (0:Nat))) (.c (.int .u8 (↑(b.getD (p+k) (0:UInt8)).toNat:Int))),EqvI (.c (.int .i64 (IntKind.i64.wrap (beN b p k*(2:Int)^(8:Nat))))) (.c (.int .i64 (beN b p k*(256:Int)))),EqvD (.c (.int .i64 (IntKind.i64.wrap (beN b p k*(2:Int)^(8:Nat))))) (.c (.int .i64 (beN b p k*(256:Int)))),(0:Int)≤(8:Int),EqvI (.c (.int .i64 (IntKind.i64.wrap (↑(b.getD (p+k) (0:UInt8)).toNat:Int)))) (.c (.int .i64 (↑(b.getD (p+k) (0:UInt8)).toNat:Int))),EqvD (.c (.int .i64 (IntKind.i64.wrap (↑(b.getD (p+k) (0:UInt8)).toNat:Int)))) (.c (.int .i64 (↑(b.getD (p+k) (0:UInt8)).toNat:Int))),EqvI (.c (.int .i64 (bitsI BinOp.or .i64 (beN b p k*(256:Int)) (↑(b.getD (p+k) (0:UInt8)).toNat:Int)))) (.c (.int .i64 (beN b p (k+(1:Nat))))),EqvD (.c (.int .i64 (bitsI BinOp.or .i64 (beN b p k*(256:Int)) (↑(b.getD (p+k) (0:UInt8)).toNat:Int)))) (.c (.int .i64 (beN b p (k+(1:Nat))))),inR .i64 ((k:Int)+1)] ⟨aS,oM,aS,fun _ _=>trivial,aS,oM,fun _ _=>trivial,aS,fun _ _=>trivial,aS,i6⟩ ?_
  exact za [] (again _ (k+1) aS oM)
 ·obtain rfl:k=n:=by omega
  have ht:decide (beN b p k>most)=false:=decide_eq_false oM
  have ht1:decide ((k:Int)<(k:Int))=false:=decide_eq_false oM
  refine zg [] [false,false] [decide ((k:Int)<(k:Int))=false,decide (beN b p k>most)=false] ⟨aS,(show decide (beN b p k>most)=false from aS)⟩ ?_
  exact zb []
theorem numC_big (b:List UInt8) (hb:b.length≤30000000000000) (p n:Nat) (c most:Int) (hn:n≤4) (hp:p+n≤b.length) (hm:(most<beN b p n)):FnB Tryz.prog G 180 [cB b p c] [.c (.ptr 0 0),.c (.int .i64 (n:Int)),.c (.int .i64 most)] [.c (.int .i64 0),.c (errC 3)] [(0,cB b (p+n) c)]:=by
 refine zf Tryz.func180 ?_
 have c1:=take_good (G:=G) b hb p n c hp
 refine zg [(1,{cs:=[(2,cb [0] c1)]})] [false] [(!true)=false] rfl ?_
 refine zl (fun (k:Nat)=>⟨[(2,.v (.c (.int .i64 most))),(10,.v (.c (.int .i64 (beN b p k)))),(22,.v (.c (.sl (1:Nat) n (bytesF (List.take n (List.drop p b)))))),(23,.v (.c (.int .i64 (↑n:Int)))),(24,.v (.c (.int .i64 (k:Int))))],[(0,cB b (p+n) c)],257⟩) (fun k=>k≤n) (fun k=>n-k) 0 (Nat.zero_le _) ?_
 intro k L hk again
 have hr:=beN_big b p k oM
 rcases Nat.lt_or_ge k n with hlt | hge
 ·have h4:=beN_rng b p k oM
  have hr3:beN b p k<16777216:=by
   have:k=0∨k=1∨k=2∨k=3:=by omega
   rcases this with rfl | rfl | rfl | rfl<;>simp at h4<;>omega
  have hc:=UInt8.toNat_lt (b.getD (p+k) 0)
  have hB:((b.drop p).take n).getD k 0=b.getD (p+k) 0:=by
   rw [List.getD_eq_getElem?_getD,List.getD_eq_getElem?_getD,List.getElem?_take,if_pos hlt,List.getElem?_drop]
  have e1:EqvD (.c (.int .u8 ((((b.drop p).take n).getD k 0).toNat:Int))) (.c (.int .u8 ((b.getD (p+k) 0).toNat:Int))):=eqvD_of (by rw [hB])
  have e2:EqvD (.c (.int .i64 (IntKind.i64.wrap (beN b p k*2^8)))) (.c (.int .i64 (beN b p k*256))):=eqvD_of (by rw [show beN b p k*2^8=beN b p k*256 from rfl,wrap64 oM oM])
  have e3:=wrapU (b.getD (p+k) 0)
  have e4:EqvD (.c (.int .i64 (bitsI .or .i64 (beN b p k*256) ((b.getD (p+k) 0).toNat:Int)))) (.c (.int .i64 (beN b p (k+1)))):=eqvD_of (by rw [or64 _ _ oM oM];rfl)
  have ht1:decide ((k:Int)<(n:Int))=true:=decide_eq_true oM
  clear h4 hB
  refine zg [(7,{fm:=[(1,.c (.int .u8 ((b.getD (p+k) 0).toNat:Int)))]}),(8,{fm:=[(1,.c (.int .i64 (beN b p k*256))),(3,.c (.int .i64 ((b.getD (p+k) 0).toNat:Int))),(4,.c (.int .i64 (beN b p (k+1))))]})] [true] [decide ((k:Int)<(n:Int))=true,(0:Int)≤(k:Int)∧(k:Int)<(n:Int),EqvD (.c (bytesF (List.take n (List.drop p b)) k (0:Nat))) (.c (.int .u8 (↑(b.getD (p+k) (0:UInt8)).toNat:Int))),EqvI (.c (.int .i64 (IntKind.i64.wrap (beN b p k*(2:Int)^(8:Nat))))) (.c (.int .i64 (beN b p k*(256:Int)))),EqvD (.c (.int .i64 (IntKind.i64.wrap (beN b p k*(2:Int)^(8:Nat))))) (.c (.int .i64 (beN b p k*(256:Int)))),(0:Int)≤(8:Int),EqvI (.c (.int .i64 (IntKind.i64.wrap (↑(b.getD (p+k) (0:UInt8)).toNat:Int)))) (.c (.int .i64 (↑(b.getD (p+k) (0:UInt8)).toNat:Int))),EqvD (.c (.int .i64 (IntKind.i64.wrap (↑(b.getD (p+k) (0:UInt8)).toNat:Int)))) (.c (.int .i64 (↑(b.getD (p+k) (0:UInt8)).toNat:Int))),EqvI (.c (.int .i64 (bitsI BinOp.or .i64 (beN b p k*(256:Int)) (↑(b.getD (p+k) (0:UInt8)).toNat:Int)))) (.c (.int .i64 (beN b p (k+(1:Nat))))),EqvD (.c (.int .i64 (bitsI BinOp.or .i64 (beN b p k*(256:Int)) (↑(b.getD (p+k) (0:UInt8)).toNat:Int)))) (.c (.int .i64 (beN b p (k+(1:Nat))))),inR .i64 ((k:Int)+1)] ⟨aS,oM,aS,fun _ _=>trivial,aS,oM,fun _ _=>trivial,aS,fun _ _=>trivial,aS,i6⟩ ?_
  exact za [] (again _ (k+1) aS oM)
 ·obtain rfl:k=n:=by omega
  have ht:decide (beN b p k>most)=true:=decide_eq_true oM
  have ht1:decide ((k:Int)<(k:Int))=false:=decide_eq_false oM
  refine zg [] [false,true] [decide ((k:Int)<(k:Int))=false,decide (beN b p k>most)=true] ⟨aS,(show decide (beN b p k>most)=true from aS)⟩ ?_
  exact zb []
theorem atomC_a1 (b:List UInt8) (hb:b.length≤30000000000000) (p:Nat) (c:Int) (hpl:p≤b.length) (hp:b.length<p+2):FnB Tryz.prog G 179 [cB b p c] [.c (.ptr 0 0)] [.c (.str []),.c (errC 1)] [(0,cB b p c)]:=by
 refine zf Tryz.func179 ?_
 have c1:=numC_short (G:=G) b hb p 2 c 1024 dC hpl hp
 refine zg [(1,{cs:=[(1,cb [0] c1)]})] [true] [(!false)=true] rfl ?_
 exact zb []
theorem atomC_a2 (b:List UInt8) (hb:b.length≤30000000000000) (p:Nat) (c:Int) (hp:p+2≤b.length) {n:Nat} (hn:(beN b p 2).toNat=n) (h3:1024<n):FnB Tryz.prog G 179 [cB b p c] [.c (.ptr 0 0)] [.c (.str []),.c (errC 3)] [(0,cB b (p+2) c)]:=by
 refine zf Tryz.func179 ?_
 have c1:=numC_big (G:=G) b hb p 2 c 1024 dC hp oM
 refine zg [(1,{cs:=[(1,cb [0] c1)]})] [true] [(!false)=true] rfl ?_
 exact zb []
theorem atomC_a3 (b:List UInt8) (hb:b.length≤30000000000000) (p:Nat) (c:Int) (hp:p+2≤b.length) {n:Nat} (hn:(beN b p 2).toNat=n) (h3:n≤1024) (h4:b.length<p+2+n):FnB Tryz.prog G 179 [cB b p c] [.c (.ptr 0 0)] [.c (.str []),.c (errC 1)] [(0,cB b (p+2) c)]:=by
 refine zf Tryz.func179 ?_
 have hr:=beN_big b p 2 dC
 have c1:=numC_good (G:=G) b hb p 2 c 1024 dC hp oM
 rw [show beN b p 2=(n:Int) by omega] at c1
 have c2:=take_short (G:=G) b hb (p+2) n c oM oM h4
 refine zg [(1,{cs:=[(1,cb [0] c1)]}),(4,{cs:=[(2,cb [0] c2)]})] [false] [(!true)=false] rfl ?_
 exact zb []
theorem atomC_a4 (b:List UInt8) (hb:b.length≤30000000000000) (p:Nat) (c:Int) (hp:p+2≤b.length) {n:Nat} (hn:(beN b p 2).toNat=n) (h3:n≤1024) (h4:p+2+n≤b.length):FnB Tryz.prog G 179 [cB b p c] [.c (.ptr 0 0)] [.c (.str ((b.drop (p+2)).take n)),.c .nilif] [(0,cB b (p+2+n) c)]:=by
 refine zf Tryz.func179 ?_
 have hr:=beN_big b p 2 dC
 have c1:=numC_good (G:=G) b hb p 2 c 1024 dC hp oM
 rw [show beN b p 2=(n:Int) by omega] at c1
 have c2:=take_good (G:=G) b hb (p+2) n c h4
 have hbl:n=((b.drop (p+2)).take n).length:=by rw [List.length_take,List.length_drop];omega
 have e4:=areBytes_F ((b.drop (p+2)).take n) 0 n
 have e5:=byteL_F ((b.drop (p+2)).take n) hbl
 refine zg [(1,{cs:=[(1,cb [0] c1)]}),(4,{cs:=[(2,cb [0] c2)]})] [false] [(!true)=false,areBytes (bytesF (List.take n (List.drop (p+2) b))) 0 n] ⟨rfl,(show areBytes (bytesF (List.take n (List.drop (p+(2:Nat)) b))) (0:Nat) n from aS)⟩ ?_
 refine Wp.ret' kR ?_
 exact FinQ.blkE (rs':=[V1.c (Cell.str (byteL (bytesF (List.take n (List.drop (p+(2:Nat)) b))) (0:Nat) n)),V1.c Cell.nilif]) (hout':=[(0,cB b (p+(2:Nat)+n) c)]) (by rw [e5];exact ⟨rfl,rfl⟩) [] kR kR kR kR kR trivial
theorem take_one (b:List UInt8) (hb:b.length≤30000000000000) (p:Nat) (c:Int) (hp:p<b.length) {k:Nat} (hk:(b.getD p 0).toNat=k):FnB Tryz.prog G 178 [cB b p c] [.c (.ptr 0 0),.c (.int .i64 1)] [.c (.sl 1 1 (fun _ _ => .int .u8 (k:Int))),.c .nilif] [(0,cB b (p+1) c)]:=by
 refine zf Tryz.func178 ?_
 have ht:decide ((b.length:Int)-(p:Int)<1)=false:=decide_eq_false oM
 have e1:EqvD (.c (.sl 1 (p+1-p) (fun i j=>bytesF b (p+i) j))) (.c (.sl 1 1 (fun _ _ => .int .u8 (k:Int)))):=EqvD.sl oM (fun i hi j hj=>by
  obtain rfl:i=0:=by omega
  show Cell.int .u8 _=Cell.int .u8 _
  rw [← hk];rfl)
 refine zg [(3,{fm:=[(20,.c (.sl 1 1 (fun _ _ => .int .u8 (k:Int))))]})] [false] [inR .i64 ((b.length:Int)-(p:Int)),decide ((b.length:Int)-(p:Int)<1)=false,inR .i64 ((p:Int)+1),inR .i64 ((p:Int)+1),EqvI (.c (.sl 1 ((Int.ofNat (p+1)).toNat-(Int.ofNat p).toNat) fun i j=>bytesF b ((Int.ofNat p).toNat+i) j)) (.c (.sl 1 (1:Nat) fun (x x_1:Nat) => .int .u8 (k:Int))),EqvD (.c (.sl 1 ((Int.ofNat (p+1)).toNat-(Int.ofNat p).toNat) fun i j=>bytesF b ((Int.ofNat p).toNat+i) j)) (.c (.sl 1 (1:Nat) fun (x x_1:Nat) => .int .u8 (k:Int))),(0:Int)≤Int.ofNat p∧Int.ofNat p≤Int.ofNat (p+1)∧Int.ofNat (p+1)≤Int.ofNat (p+1)∧Int.ofNat (p+1)≤(b.length:Int),inR .i64 ((p:Int)+1)] ⟨i6,aS,i6,i6,fun _ _=>trivial,aS,⟨(by simp;done),⟨sO,⟨oM,sO⟩⟩⟩,i6⟩ ?_
 exact zb []
theorem term_deep (b:List UInt8) (f p l:Nat) (hf:f≤16) (hl2:l≤64) (h0:f=0∨l=0):FnB Tryz.prog G 177 [cB b p ((64:Int)-(l:Int))] [.c (.ptr 0 0),.c (.int .i64 (17-(f:Int)))] [.agg (encK ⟨0,0,[],0,fun _ _ => .nilif⟩),.c (errC 4)] [(0,cB b p ((64:Int)-(l:Int)+1))]:=by
 refine zf Tryz.func177 ?_
 have ht0:(bif decide ((64:Int)-(l:Int)+1>64) then true else decide (17-(f:Int)>16))=true:=by
  rcases h0 with rfl | rfl
  ·cases decide ((64:Int)-(l:Int)+1>64)<;>rfl
  ·rfl
 have eD:=@kids_D 0 0 [] (fun _ _ => .nilif)
 have eI:=@kids_I 0 0 [] (fun _ _ => .nilif)
 refine zg [(3,{fm:=[(0,.agg [.int .i64 0,.int .i64 0,.str [],.sl 4 0 (fun _ _ => .nilif)])]})] [true] [inR .i64 (64-(l:Int)+1),(bif decide ((64:Int)-(l:Int)+(1:Int)>(64:Int)) then true else decide ((17:Int)-(f:Int)>(16:Int)))=true,EqvI (.agg [.int .i64 0,.int .i64 0,.str [],.nilsl]) (.agg [.int .i64 0,.int .i64 0,.str [],.sl 4 0 fun (x x_1:Nat) => .nilif]),EqvD (.agg [.int .i64 0,.int .i64 0,.str [],.nilsl]) (.agg [.int .i64 0,.int .i64 0,.str [],.sl 4 0 fun (x x_1:Nat) => .nilif])] ⟨i6,aS,eqvI_flat _ _ kR,(show EqvD (.agg [.int .i64 (0:Int),.int .i64 (0:Int),.str [],.nilsl]) (.agg [.int .i64 (0:Int),.int .i64 (0:Int),.str [],.sl (4:Nat) (0:Nat) fun (x x_1:Nat) => .nilif]) from aS)⟩ ?_
 exact zb []
theorem term_short (b:List UInt8) (hb:b.length≤30000000000000) (f p l:Nat) (hf:f<16) (hl:0<l) (hl2:l≤64) (hp:p=b.length):FnB Tryz.prog G 177 [cB b p ((64:Int)-(l:Int))] [.c (.ptr 0 0),.c (.int .i64 (17-((f+1:Nat):Int)))] [.agg (encK ⟨0,0,[],0,fun _ _ => .nilif⟩),.c (errC 1)] [(0,cB b p ((64:Int)-(l:Int)+1))]:=by
 refine zf Tryz.func177 ?_
 have ht0:(bif decide ((64:Int)-(l:Int)+1>64) then true else decide (17-((f+1:Nat):Int)>16))=false:=by rw [decide_eq_false oM,decide_eq_false oM];rfl
 have c1:=take_short (G:=G) b hb p 1 ((64:Int)-(l:Int)+1) dC oM oM
 have eD:=@kids_D 0 0 [] (fun _ _ => .nilif)
 have eI:=@kids_I 0 0 [] (fun _ _ => .nilif)
 refine zg [(6,{fm:=[(0,.agg [.int .i64 0,.int .i64 0,.str [],.sl 4 0 (fun _ _ => .nilif)])]}),(4,{cs:=[(1,cb [0] c1)]})] [false,true] [inR .i64 (64-(l:Int)+1),(bif decide ((64:Int)-(l:Int)+(1:Int)>(64:Int)) then true else decide ((17:Int)-(↑(f+(1:Nat)):Int)>(16:Int)))=false,(!false)=true,EqvI (.agg [.int .i64 0,.int .i64 0,.str [],.nilsl]) (.agg [.int .i64 0,.int .i64 0,.str [],.sl 4 0 fun (x x_1:Nat) => .nilif]),EqvD (.agg [.int .i64 0,.int .i64 0,.str [],.nilsl]) (.agg [.int .i64 0,.int .i64 0,.str [],.sl 4 0 fun (x x_1:Nat) => .nilif])] ⟨i6,aS,rfl,eqvI_flat _ _ kR,(show EqvD (.agg [.int .i64 (0:Int),.int .i64 (0:Int),.str [],.nilsl]) (.agg [.int .i64 (0:Int),.int .i64 (0:Int),.str [],.sl (4:Nat) (0:Nat) fun (x x_1:Nat) => .nilif]) from aS)⟩ ?_
 exact zb []
theorem term_a1 (b:List UInt8) (hb:b.length≤30000000000000) (f p l:Nat) (hf:f<16) (hl:0<l) (hl2:l≤64) (hp:p<b.length) (hk:(b.getD p 0).toNat=1) (h2:b.length<p+1+2):FnB Tryz.prog G 177 [cB b p ((64:Int)-(l:Int))] [.c (.ptr 0 0),.c (.int .i64 (17-((f+1:Nat):Int)))] [.agg (encK ⟨1,0,[],0,fun _ _ => .nilif⟩),.c (errC 1)] [(0,cB b (p+1) ((64:Int)-(l:Int)+1))]:=by
 refine zf Tryz.func177 ?_
 have ht0:(bif decide ((64:Int)-(l:Int)+1>64) then true else decide (17-((f+1:Nat):Int)>16))=false:=by rw [decide_eq_false oM,decide_eq_false oM];rfl
 have c1:=take_one (G:=G) b hb p ((64:Int)-(l:Int)+1) hp hk
 have c2:=atomC_a1 (G:=G) b hb (p+1) ((64:Int)-(l:Int)+1) oM h2
 have eD:=@kids_D 1 0 [] (fun _ _ => .nilif)
 have eI:=@kids_I 1 0 [] (fun _ _ => .nilif)
 refine zg [(21,{fm:=[(0,.agg [.int .i64 1,.int .i64 0,.str [],.sl 4 0 (fun _ _ => .nilif)])]}),(4,{cs:=[(1,cb [0] c1)]}),(11,{cs:=[(1,cb [0] c2)]})] [false,false,true] [inR .i64 (64-(l:Int)+1),(bif decide ((64:Int)-(l:Int)+(1:Int)>(64:Int)) then true else decide ((17:Int)-(↑(f+(1:Nat)):Int)>(16:Int)))=false,(!true)=false,(0:Int)≤(0:Int)∧(0:Int)<(↑(1:Nat):Int),(IntKind.i64.wrap (↑(1:Nat):Int)==(1:Int))=true,EqvI (.agg [.int .i64 (IntKind.i64.wrap (↑(1:Nat):Int)),.int .i64 0,.str [],.nilsl]) (.agg [.int .i64 1,.int .i64 0,.str [],.sl 4 (0:Nat) fun (x x_1:Nat) => .nilif]),EqvD (.agg [.int .i64 (IntKind.i64.wrap (↑(1:Nat):Int)),.int .i64 0,.str [],.nilsl]) (.agg [.int .i64 1,.int .i64 0,.str [],.sl 4 (0:Nat) fun (x x_1:Nat) => .nilif])] ⟨i6,aS,rfl,oM,rfl,eqvI_flat _ _ kR,(show EqvD (.agg [.int .i64 (IntKind.i64.wrap (↑(1:Nat):Int)),.int .i64 (0:Int),.str [],.nilsl]) (.agg [.int .i64 (1:Int),.int .i64 (0:Int),.str [],.sl (4:Nat) (0:Nat) fun (x x_1:Nat) => .nilif]) from aS)⟩ ?_
 exact zb []
theorem term_a2 (b:List UInt8) (hb:b.length≤30000000000000) (f p l:Nat) (hf:f<16) (hl:0<l) (hl2:l≤64) (hp:p<b.length) (hk:(b.getD p 0).toNat=1) (h2:p+1+2≤b.length) {n:Nat} (hn:(beN b (p+1) 2).toNat=n) (h3:1024<n):FnB Tryz.prog G 177 [cB b p ((64:Int)-(l:Int))] [.c (.ptr 0 0),.c (.int .i64 (17-((f+1:Nat):Int)))] [.agg (encK ⟨1,0,[],0,fun _ _ => .nilif⟩),.c (errC 3)] [(0,cB b (p+1+2) ((64:Int)-(l:Int)+1))]:=by
 refine zf Tryz.func177 ?_
 have ht0:(bif decide ((64:Int)-(l:Int)+1>64) then true else decide (17-((f+1:Nat):Int)>16))=false:=by rw [decide_eq_false oM,decide_eq_false oM];rfl
 have c1:=take_one (G:=G) b hb p ((64:Int)-(l:Int)+1) hp hk
 have c2:=atomC_a2 (G:=G) b hb (p+1) ((64:Int)-(l:Int)+1) h2 hn h3
 have eD:=@kids_D 1 0 [] (fun _ _ => .nilif)
 have eI:=@kids_I 1 0 [] (fun _ _ => .nilif)
 refine zg [(21,{fm:=[(0,.agg [.int .i64 1,.int .i64 0,.str [],.sl 4 0 (fun _ _ => .nilif)])]}),(4,{cs:=[(1,cb [0] c1)]}),(11,{cs:=[(1,cb [0] c2)]})] [false,false,true] [inR .i64 (64-(l:Int)+1),(bif decide ((64:Int)-(l:Int)+(1:Int)>(64:Int)) then true else decide ((17:Int)-(↑(f+(1:Nat)):Int)>(16:Int)))=false,(!true)=false,(0:Int)≤(0:Int)∧(0:Int)<(↑(1:Nat):Int),(IntKind.i64.wrap (↑(1:Nat):Int)==(1:Int))=true,EqvI (.agg [.int .i64 (IntKind.i64.wrap (↑(1:Nat):Int)),.int .i64 0,.str [],.nilsl]) (.agg [.int .i64 1,.int .i64 0,.str [],.sl 4 (0:Nat) fun (x x_1:Nat) => .nilif]),EqvD (.agg [.int .i64 (IntKind.i64.wrap (↑(1:Nat):Int)),.int .i64 0,.str [],.nilsl]) (.agg [.int .i64 1,.int .i64 0,.str [],.sl 4 (0:Nat) fun (x x_1:Nat) => .nilif])] ⟨i6,aS,rfl,oM,rfl,eqvI_flat _ _ kR,(show EqvD (.agg [.int .i64 (IntKind.i64.wrap (↑(1:Nat):Int)),.int .i64 (0:Int),.str [],.nilsl]) (.agg [.int .i64 (1:Int),.int .i64 (0:Int),.str [],.sl (4:Nat) (0:Nat) fun (x x_1:Nat) => .nilif]) from aS)⟩ ?_
 exact zb []
theorem term_a3 (b:List UInt8) (hb:b.length≤30000000000000) (f p l:Nat) (hf:f<16) (hl:0<l) (hl2:l≤64) (hp:p<b.length) (hk:(b.getD p 0).toNat=1) (h2:p+1+2≤b.length) {n:Nat} (hn:(beN b (p+1) 2).toNat=n) (h3:n≤1024) (h4:b.length<p+1+2+n):FnB Tryz.prog G 177 [cB b p ((64:Int)-(l:Int))] [.c (.ptr 0 0),.c (.int .i64 (17-((f+1:Nat):Int)))] [.agg (encK ⟨1,0,[],0,fun _ _ => .nilif⟩),.c (errC 1)] [(0,cB b (p+1+2) ((64:Int)-(l:Int)+1))]:=by
 refine zf Tryz.func177 ?_
 have ht0:(bif decide ((64:Int)-(l:Int)+1>64) then true else decide (17-((f+1:Nat):Int)>16))=false:=by rw [decide_eq_false oM,decide_eq_false oM];rfl
 have c1:=take_one (G:=G) b hb p ((64:Int)-(l:Int)+1) hp hk
 have c2:=atomC_a3 (G:=G) b hb (p+1) ((64:Int)-(l:Int)+1) h2 hn h3 h4
 have eD:=@kids_D 1 0 [] (fun _ _ => .nilif)
 have eI:=@kids_I 1 0 [] (fun _ _ => .nilif)
 refine zg [(21,{fm:=[(0,.agg [.int .i64 1,.int .i64 0,.str [],.sl 4 0 (fun _ _ => .nilif)])]}),(4,{cs:=[(1,cb [0] c1)]}),(11,{cs:=[(1,cb [0] c2)]})] [false,false,true] [inR .i64 (64-(l:Int)+1),(bif decide ((64:Int)-(l:Int)+(1:Int)>(64:Int)) then true else decide ((17:Int)-(↑(f+(1:Nat)):Int)>(16:Int)))=false,(!true)=false,(0:Int)≤(0:Int)∧(0:Int)<(↑(1:Nat):Int),(IntKind.i64.wrap (↑(1:Nat):Int)==(1:Int))=true,EqvI (.agg [.int .i64 (IntKind.i64.wrap (↑(1:Nat):Int)),.int .i64 0,.str [],.nilsl]) (.agg [.int .i64 1,.int .i64 0,.str [],.sl 4 (0:Nat) fun (x x_1:Nat) => .nilif]),EqvD (.agg [.int .i64 (IntKind.i64.wrap (↑(1:Nat):Int)),.int .i64 0,.str [],.nilsl]) (.agg [.int .i64 1,.int .i64 0,.str [],.sl 4 (0:Nat) fun (x x_1:Nat) => .nilif])] ⟨i6,aS,rfl,oM,rfl,eqvI_flat _ _ kR,(show EqvD (.agg [.int .i64 (IntKind.i64.wrap (↑(1:Nat):Int)),.int .i64 (0:Int),.str [],.nilsl]) (.agg [.int .i64 (1:Int),.int .i64 (0:Int),.str [],.sl (4:Nat) (0:Nat) fun (x x_1:Nat) => .nilif]) from aS)⟩ ?_
 exact zb []
theorem term_a4 (b:List UInt8) (hb:b.length≤30000000000000) (f p l:Nat) (hf:f<16) (hl:0<l) (hl2:l≤64) (hp:p<b.length) (hk:(b.getD p 0).toNat=1) (h2:p+1+2≤b.length) {n:Nat} (hn:(beN b (p+1) 2).toNat=n) (h3:n≤1024) (h4:p+1+2+n≤b.length):FnB Tryz.prog G 177 [cB b p ((64:Int)-(l:Int))] [.c (.ptr 0 0),.c (.int .i64 (17-((f+1:Nat):Int)))] [.agg (encK ⟨1,0,((b.drop (p+1+2)).take n),0,fun _ _ => .nilif⟩),.c .nilif] [(0,cB b (p+1+2+n) ((64:Int)-(l:Int)+1))]:=by
 refine zf Tryz.func177 ?_
 have ht0:(bif decide ((64:Int)-(l:Int)+1>64) then true else decide (17-((f+1:Nat):Int)>16))=false:=by rw [decide_eq_false oM,decide_eq_false oM];rfl
 have c1:=take_one (G:=G) b hb p ((64:Int)-(l:Int)+1) hp hk
 have c2:=atomC_a4 (G:=G) b hb (p+1) ((64:Int)-(l:Int)+1) h2 hn h3 h4
 have eD:=@kids_D 1 0 ((b.drop (p+1+2)).take n) (fun _ _ => .nilif)
 have eI:=@kids_I 1 0 ((b.drop (p+1+2)).take n) (fun _ _ => .nilif)
 refine zg [(21,{fm:=[(0,.agg [.int .i64 1,.int .i64 0,.str ((b.drop (p+1+2)).take n),.sl 4 0 (fun _ _ => .nilif)])]}),(4,{cs:=[(1,cb [0] c1)]}),(11,{cs:=[(1,cb [0] c2)]})] [false,false,true] [inR .i64 (64-(l:Int)+1),(bif decide ((64:Int)-(l:Int)+(1:Int)>(64:Int)) then true else decide ((17:Int)-(↑(f+(1:Nat)):Int)>(16:Int)))=false,(!true)=false,(0:Int)≤(0:Int)∧(0:Int)<(↑(1:Nat):Int),(IntKind.i64.wrap (↑(1:Nat):Int)==(1:Int))=true,EqvI (.agg [.int .i64 (IntKind.i64.wrap (↑(1:Nat):Int)),.int .i64 0,.str (List.take n (List.drop (p+(1:Nat)+(2:Nat)) b)),.nilsl]) (.agg [.int .i64 1,.int .i64 0,.str (List.take n (List.drop (p+(1:Nat)+(2:Nat)) b)),.sl 4 (0:Nat) fun (x x_1:Nat) => .nilif]),EqvD (.agg [.int .i64 (IntKind.i64.wrap (↑(1:Nat):Int)),.int .i64 0,.str (List.take n (List.drop (p+(1:Nat)+(2:Nat)) b)),.nilsl]) (.agg [.int .i64 1,.int .i64 0,.str (List.take n (List.drop (p+(1:Nat)+(2:Nat)) b)),.sl 4 (0:Nat) fun (x x_1:Nat) => .nilif])] ⟨i6,aS,rfl,oM,rfl,eqvI_flat _ _ kR,(show EqvD (.agg [.int .i64 (IntKind.i64.wrap (↑(1:Nat):Int)),.int .i64 (0:Int),.str (List.take n (List.drop (p+(1:Nat)+(2:Nat)) b)),.nilsl]) (.agg [.int .i64 (1:Int),.int .i64 (0:Int),.str (List.take n (List.drop (p+(1:Nat)+(2:Nat)) b)),.sl (4:Nat) (0:Nat) fun (x x_1:Nat) => .nilif]) from aS)⟩ ?_
 exact zb []
theorem term_n1 (b:List UInt8) (hb:b.length≤30000000000000) (f p l:Nat) (hf:f<16) (hl:0<l) (hl2:l≤64) (hp:p<b.length) (hk:(b.getD p 0).toNat=2) (h2:b.length<p+1+4):FnB Tryz.prog G 177 [cB b p ((64:Int)-(l:Int))] [.c (.ptr 0 0),.c (.int .i64 (17-((f+1:Nat):Int)))] [.agg (encK ⟨2,0,[],0,fun _ _ => .nilif⟩),.c (errC 1)] [(0,cB b (p+1) ((64:Int)-(l:Int)+1))]:=by
 refine zf Tryz.func177 ?_
 have ht0:(bif decide ((64:Int)-(l:Int)+1>64) then true else decide (17-((f+1:Nat):Int)>16))=false:=by rw [decide_eq_false oM,decide_eq_false oM];rfl
 have c1:=take_one (G:=G) b hb p ((64:Int)-(l:Int)+1) hp hk
 have c2:=numC_short (G:=G) b hb (p+1) 4 ((64:Int)-(l:Int)+1) 1073741824 dC oM h2
 have eD:=@kids_D 2 0 [] (fun _ _ => .nilif)
 have eI:=@kids_I 2 0 [] (fun _ _ => .nilif)
 refine zg [(21,{fm:=[(0,.agg [.int .i64 2,.int .i64 0,.str [],.sl 4 0 (fun _ _ => .nilif)])]}),(4,{cs:=[(1,cb [0] c1)]}),(13,{cs:=[(1,cb [0] c2)]})] [false,false,false,true] [inR .i64 (64-(l:Int)+1),(bif decide ((64:Int)-(l:Int)+(1:Int)>(64:Int)) then true else decide ((17:Int)-(↑(f+(1:Nat)):Int)>(16:Int)))=false,(!true)=false,(0:Int)≤(0:Int)∧(0:Int)<(↑(1:Nat):Int),(IntKind.i64.wrap (↑(2:Nat):Int)==(1:Int))=false,(IntKind.i64.wrap (↑(2:Nat):Int)==(2:Int))=true,EqvI (.agg [.int .i64 (IntKind.i64.wrap (↑(2:Nat):Int)),.int .i64 0,.str [],.nilsl]) (.agg [.int .i64 2,.int .i64 0,.str [],.sl 4 (0:Nat) fun (x x_1:Nat) => .nilif]),EqvD (.agg [.int .i64 (IntKind.i64.wrap (↑(2:Nat):Int)),.int .i64 0,.str [],.nilsl]) (.agg [.int .i64 2,.int .i64 0,.str [],.sl 4 (0:Nat) fun (x x_1:Nat) => .nilif])] ⟨i6,aS,rfl,oM,rfl,rfl,eqvI_flat _ _ kR,(show EqvD (.agg [.int .i64 (IntKind.i64.wrap (↑(2:Nat):Int)),.int .i64 (0:Int),.str [],.nilsl]) (.agg [.int .i64 (2:Int),.int .i64 (0:Int),.str [],.sl (4:Nat) (0:Nat) fun (x x_1:Nat) => .nilif]) from aS)⟩ ?_
 exact zb []
theorem term_n2 (b:List UInt8) (hb:b.length≤30000000000000) (f p l:Nat) (hf:f<16) (hl:0<l) (hl2:l≤64) (hp:p<b.length) (hk:(b.getD p 0).toNat=2) (h2:p+1+4≤b.length) {n:Nat} (hn:(beN b (p+1) 4).toNat=n) (h3:1073741824<n):FnB Tryz.prog G 177 [cB b p ((64:Int)-(l:Int))] [.c (.ptr 0 0),.c (.int .i64 (17-((f+1:Nat):Int)))] [.agg (encK ⟨2,0,[],0,fun _ _ => .nilif⟩),.c (errC 3)] [(0,cB b (p+1+4) ((64:Int)-(l:Int)+1))]:=by
 refine zf Tryz.func177 ?_
 have ht0:(bif decide ((64:Int)-(l:Int)+1>64) then true else decide (17-((f+1:Nat):Int)>16))=false:=by rw [decide_eq_false oM,decide_eq_false oM];rfl
 have c1:=take_one (G:=G) b hb p ((64:Int)-(l:Int)+1) hp hk
 have c2:=numC_big (G:=G) b hb (p+1) 4 ((64:Int)-(l:Int)+1) 1073741824 dC h2 oM
 have eD:=@kids_D 2 0 [] (fun _ _ => .nilif)
 have eI:=@kids_I 2 0 [] (fun _ _ => .nilif)
 refine zg [(21,{fm:=[(0,.agg [.int .i64 2,.int .i64 0,.str [],.sl 4 0 (fun _ _ => .nilif)])]}),(4,{cs:=[(1,cb [0] c1)]}),(13,{cs:=[(1,cb [0] c2)]})] [false,false,false,true] [inR .i64 (64-(l:Int)+1),(bif decide ((64:Int)-(l:Int)+(1:Int)>(64:Int)) then true else decide ((17:Int)-(↑(f+(1:Nat)):Int)>(16:Int)))=false,(!true)=false,(0:Int)≤(0:Int)∧(0:Int)<(↑(1:Nat):Int),(IntKind.i64.wrap (↑(2:Nat):Int)==(1:Int))=false,(IntKind.i64.wrap (↑(2:Nat):Int)==(2:Int))=true,EqvI (.agg [.int .i64 (IntKind.i64.wrap (↑(2:Nat):Int)),.int .i64 0,.str [],.nilsl]) (.agg [.int .i64 2,.int .i64 0,.str [],.sl 4 (0:Nat) fun (x x_1:Nat) => .nilif]),EqvD (.agg [.int .i64 (IntKind.i64.wrap (↑(2:Nat):Int)),.int .i64 0,.str [],.nilsl]) (.agg [.int .i64 2,.int .i64 0,.str [],.sl 4 (0:Nat) fun (x x_1:Nat) => .nilif])] ⟨i6,aS,rfl,oM,rfl,rfl,eqvI_flat _ _ kR,(show EqvD (.agg [.int .i64 (IntKind.i64.wrap (↑(2:Nat):Int)),.int .i64 (0:Int),.str [],.nilsl]) (.agg [.int .i64 (2:Int),.int .i64 (0:Int),.str [],.sl (4:Nat) (0:Nat) fun (x x_1:Nat) => .nilif]) from aS)⟩ ?_
 exact zb []
theorem term_n3 (b:List UInt8) (hb:b.length≤30000000000000) (f p l:Nat) (hf:f<16) (hl:0<l) (hl2:l≤64) (hp:p<b.length) (hk:(b.getD p 0).toNat=2) (h2:p+1+4≤b.length) {n:Nat} (hn:(beN b (p+1) 4).toNat=n) (h3:n≤1073741824):FnB Tryz.prog G 177 [cB b p ((64:Int)-(l:Int))] [.c (.ptr 0 0),.c (.int .i64 (17-((f+1:Nat):Int)))] [.agg (encK ⟨2,(n:Int),[],0,fun _ _ => .nilif⟩),.c .nilif] [(0,cB b (p+1+4) ((64:Int)-(l:Int)+1))]:=by
 refine zf Tryz.func177 ?_
 have ht0:(bif decide ((64:Int)-(l:Int)+1>64) then true else decide (17-((f+1:Nat):Int)>16))=false:=by rw [decide_eq_false oM,decide_eq_false oM];rfl
 have c1:=take_one (G:=G) b hb p ((64:Int)-(l:Int)+1) hp hk
 have hr:=beN_big b (p+1) 4 dC
 have c2:=numC_good (G:=G) b hb (p+1) 4 ((64:Int)-(l:Int)+1) 1073741824 dC h2 oM
 rw [show beN b (p+1) 4=(n:Int) by omega] at c2
 have eD:=@kids_D 2 (n:Int) [] (fun _ _ => .nilif)
 have eI:=@kids_I 2 (n:Int) [] (fun _ _ => .nilif)
 refine zg [(21,{fm:=[(0,.agg [.int .i64 2,.int .i64 (n:Int),.str [],.sl 4 0 (fun _ _ => .nilif)])]}),(4,{cs:=[(1,cb [0] c1)]}),(13,{cs:=[(1,cb [0] c2)]})] [false,false,false,true] [inR .i64 (64-(l:Int)+1),(bif decide ((64:Int)-(l:Int)+(1:Int)>(64:Int)) then true else decide ((17:Int)-(↑(f+(1:Nat)):Int)>(16:Int)))=false,(!true)=false,(0:Int)≤(0:Int)∧(0:Int)<(↑(1:Nat):Int),(IntKind.i64.wrap (↑(2:Nat):Int)==(1:Int))=false,(IntKind.i64.wrap (↑(2:Nat):Int)==(2:Int))=true,EqvI (.agg [.int .i64 (IntKind.i64.wrap (↑(2:Nat):Int)),.int .i64 (n:Int),.str [],.nilsl]) (.agg [.int .i64 2,.int .i64 (n:Int),.str [],.sl 4 (0:Nat) fun (x x_1:Nat) => .nilif]),EqvD (.agg [.int .i64 (IntKind.i64.wrap (↑(2:Nat):Int)),.int .i64 (n:Int),.str [],.nilsl]) (.agg [.int .i64 2,.int .i64 (n:Int),.str [],.sl 4 (0:Nat) fun (x x_1:Nat) => .nilif])] ⟨i6,aS,rfl,oM,rfl,rfl,eqvI_flat _ _ kR,(show EqvD (.agg [.int .i64 (IntKind.i64.wrap (↑(2:Nat):Int)),.int .i64 (↑n:Int),.str [],.nilsl]) (.agg [.int .i64 (2:Int),.int .i64 (↑n:Int),.str [],.sl (4:Nat) (0:Nat) fun (x x_1:Nat) => .nilif]) from aS)⟩ ?_
 exact zb []
theorem term_bad (b:List UInt8) (hb:b.length≤30000000000000) (f p l:Nat) (hf:f<16) (hl:0<l) (hl2:l≤64) (hp:p<b.length) {k:Nat} (hk:(b.getD p 0).toNat=k) (hk0:k=0∨8≤k) (hk9:k<256):FnB Tryz.prog G 177 [cB b p ((64:Int)-(l:Int))] [.c (.ptr 0 0),.c (.int .i64 (17-((f+1:Nat):Int)))] [.agg (encK ⟨(k:Int),0,[],0,fun _ _ => .nilif⟩),.c (errC 2)] [(0,cB b (p+1) ((64:Int)-(l:Int)+1))]:=by
 refine zf Tryz.func177 ?_
 have ht0:(bif decide ((64:Int)-(l:Int)+1>64) then true else decide (17-((f+1:Nat):Int)>16))=false:=by rw [decide_eq_false oM,decide_eq_false oM];rfl
 have c1:=take_one (G:=G) b hb p ((64:Int)-(l:Int)+1) hp hk
 have hk1:((k:Int)==1)=false:=by rw [beq_eq_false_iff_ne];omega
 have hk2:((k:Int)==2)=false:=by rw [beq_eq_false_iff_ne];omega
 have hk3:((k:Int)==3)=false:=by rw [beq_eq_false_iff_ne];omega
 have hk4:((k:Int)==4)=false:=by rw [beq_eq_false_iff_ne];omega
 have hk5:((k:Int)==5)=false:=by rw [beq_eq_false_iff_ne];omega
 have hk6:((k:Int)==6)=false:=by rw [beq_eq_false_iff_ne];omega
 have hk7:((k:Int)==7)=false:=by rw [beq_eq_false_iff_ne];omega
 have e9:EqvD (.c (.int .i64 (IntKind.i64.wrap (k:Int)))) (.c (.int .i64 (k:Int))):=eqvD_of (by rw [wrap64 oM oM])
 have eD:=@kids_D (k:Int) 0 [] (fun _ _ => .nilif)
 have eI:=@kids_I (k:Int) 0 [] (fun _ _ => .nilif)
 refine zg [(7,{fm:=[(3,.c (.int .i64 (k:Int)))]}),(21,{fm:=[(0,.agg [.int .i64 (k:Int),.int .i64 0,.str [],.sl 4 0 (fun _ _ => .nilif)])]}),(4,{cs:=[(1,cb [0] c1)]})] [false,false,false,false,false,false,false,false,false] [inR .i64 (64-(l:Int)+1),(bif decide ((64:Int)-(l:Int)+(1:Int)>(64:Int)) then true else decide ((17:Int)-(↑(f+(1:Nat)):Int)>(16:Int)))=false,(!true)=false,(0:Int)≤(0:Int)∧(0:Int)<(↑(1:Nat):Int),EqvI (.c (.int .i64 (IntKind.i64.wrap (k:Int)))) (.c (.int .i64 (k:Int))),EqvD (.c (.int .i64 (IntKind.i64.wrap (k:Int)))) (.c (.int .i64 (k:Int))),((k:Int)==(1:Int))=false,((k:Int)==(2:Int))=false,((k:Int)==(3:Int))=false,((k:Int)==(4:Int))=false,((k:Int)==(5:Int))=false,((k:Int)==(6:Int))=false,((k:Int)==(7:Int))=false,EqvI (.agg [.int .i64 (k:Int),.int .i64 0,.str [],.nilsl]) (.agg [.int .i64 (k:Int),.int .i64 0,.str [],.sl 4 (0:Nat) fun (x x_1:Nat) => .nilif]),EqvD (.agg [.int .i64 (k:Int),.int .i64 0,.str [],.nilsl]) (.agg [.int .i64 (k:Int),.int .i64 0,.str [],.sl 4 (0:Nat) fun (x x_1:Nat) => .nilif])] ⟨i6,aS,rfl,oM,fun _ _=>trivial,aS,aS,aS,aS,aS,aS,aS,aS,eqvI_flat _ _ kR,(show EqvD (.agg [.int .i64 (↑k:Int),.int .i64 (0:Int),.str [],.nilsl]) (.agg [.int .i64 (↑k:Int),.int .i64 (0:Int),.str [],.sl (4:Nat) (0:Nat) fun (x x_1:Nat) => .nilif]) from aS)⟩ ?_
 exact zb []
def zeroT:Nat→Nat→Cell:=fun _ j=>nthD [.int .i64 0,.int .i64 0,.str [],.nilsl] j
theorem kid_new2 {e:TypeId} (F:Nat→Nat→Cell) (x:KT):BlkEqv (.row e 4 1 (catF 0 F (fun i j=>nthD (encK x) ((0+i)*4+j)))) (.row e 4 1 (rowF encK .nil [x])):=BlkEqv.row_ext rfl fun i hi j hj=>by
 obtain rfl:i=0:=by omega
 show nthD (encK x) ((0+(0-0))*4+j)=nthD (encK x) j
 congr 1;omega
def kcSt (b:List UInt8) (d kids i:Int) (p:Nat) (c:Int) (n:Nat) (F:Nat→Nat→Cell):St :=
 ⟨[(0,.v (.c (.ptr 0 0))),(2,.v (.c (.int .i64 d))),(8,.v (.c (.row 4 49 0 n))),(13,.v (.c (.int .i64 kids))),(14,.v (.c (.int .i64 i)))],[(0,cB b p c),(49,.row 101 4 n F)],113⟩
theorem kidsC_1 (b:List UInt8) (p:Nat) (c d:Int) {x:KT} {p1:Nat} {c1:Int} (cx:FnB Tryz.prog G 177 [cB b p c] [.c (.ptr 0 0),.c (.int .i64 d)] [.agg (encK x),.c .nilif] [(0,cB b p1 c1)]):FnB Tryz.prog G 181 [cB b p c] [.c (.ptr 0 0),.c (.int .i64 1),.c (.int .i64 d)] [.c (.sl 4 1 (rowF encK .nil [x])),.c .nilif] [(0,cB b p1 c1)]:=by
 refine zf Tryz.func181 ?_
 refine zg [] [] [(0:Int)≤(0:Int),(0:Int)≤(1:Int),(1:Int)*(↑(56:Nat):Int)≤(140737488355328:Int)] ⟨oM,oM,(show (1:Int)*(↑(56:Nat):Int)≤(140737488355328:Int) from oM)⟩ ?_
 refine zl (fun (j:Nat)=>match j with | 0=>kcSt b d 1 0 p c 0 zeroT | _=>kcSt b d 1 1 p1 c1 1 (rowF encK .nil [x])) (fun j=>j≤1) (fun j=>1-j) 0 (Nat.zero_le _) ?_ [(49,49)]
 intro j L hj again
 obtain rfl | rfl:j=0∨j=1:=by omega
 ·have e1:=kid_new2 (e:=101) zeroT x
  refine zg [(7,{bs:=[(3,.row 101 4 1 (rowF encK .nil [x]))]}),(4,{cs:=[(2,cb [0] cx)]})] [true,false] [decide ((0:Int)<(1:Int))=true,(!true)=false,56≤140737488355328,BlkEqv (.row 101 4 1 (catF 0 zeroT fun i j=>nthD (encK x) ((0+i)*4+j))) (.row 101 4 1 (rowF encK KT.nil [x])),0≤0,0+1≤1,inR .i64 (0+1)] ⟨rfl,rfl,oM,aS,oM,oM,i6⟩ ?_
  exact za [(49,353)] (again _ 1 oM oM)
 ·refine Wp.ent' kR (Ent.pubT (t:=8) (e:=101) (sz:=4) (id:=49) (off:=0) (m:=1) (n:=1) (f:=rowF encK .nil [x]) (m':=1) (f':=rowF encK .nil [x]) kR kR oM rfl (fun i _ j _=>by rw [Nat.zero_add]) rfl) ?_
  refine zg [] [false] [decide ((1:Int)<(1:Int))=false] rfl ?_
  exact zb []
theorem kidsC_x (b:List UInt8) (p:Nat) (c d:Int) {x:KT} {p1:Nat} {c1 e:Int} (cx:FnB Tryz.prog G 177 [cB b p c] [.c (.ptr 0 0),.c (.int .i64 d)] [.agg (encK x),.c (errC e)] [(0,cB b p1 c1)]):FnB Tryz.prog G 181 [cB b p c] [.c (.ptr 0 0),.c (.int .i64 1),.c (.int .i64 d)] [.c .nilsl,.c (errC e)] [(0,cB b p1 c1)]:=by
 refine zf Tryz.func181 ?_
 refine zg [] [] [(0:Int)≤(0:Int),(0:Int)≤(1:Int),(1:Int)*(↑(56:Nat):Int)≤(140737488355328:Int)] ⟨oM,oM,(show (1:Int)*(↑(56:Nat):Int)≤(140737488355328:Int) from oM)⟩ ?_
 refine zl (fun (j:Nat)=>kcSt b d 1 0 p c 0 zeroT) (fun j=>j≤0) (fun j=>0-j) 0 (Nat.zero_le _) ?_ [(49,49)]
 intro j L hj again
 obtain rfl:j=0:=by omega
 ·refine zg [(4,{cs:=[(2,cb [0] cx)]})] [true,true] [decide ((0:Int)<(1:Int))=true,(!false)=true] ⟨rfl,rfl⟩ ?_
  exact zb []
theorem kidsC_x2 (b:List UInt8) (p:Nat) (c d:Int) {x:KT} {p1:Nat} {c1 e:Int} (cx:FnB Tryz.prog G 177 [cB b p c] [.c (.ptr 0 0),.c (.int .i64 d)] [.agg (encK x),.c (errC e)] [(0,cB b p1 c1)]):FnB Tryz.prog G 181 [cB b p c] [.c (.ptr 0 0),.c (.int .i64 2),.c (.int .i64 d)] [.c .nilsl,.c (errC e)] [(0,cB b p1 c1)]:=by
 refine zf Tryz.func181 ?_
 refine zg [] [] [(0:Int)≤(0:Int),(0:Int)≤(2:Int),(2:Int)*(↑(56:Nat):Int)≤(140737488355328:Int)] ⟨oM,oM,(show (2:Int)*(↑(56:Nat):Int)≤(140737488355328:Int) from oM)⟩ ?_
 refine zl (fun (j:Nat)=>kcSt b d 2 0 p c 0 zeroT) (fun j=>j≤0) (fun j=>0-j) 0 (Nat.zero_le _) ?_ [(49,49)]
 intro j L hj again
 obtain rfl:j=0:=by omega
 ·refine zg [(4,{cs:=[(2,cb [0] cx)]})] [true,true] [decide ((0:Int)<(2:Int))=true,(!false)=true] ⟨rfl,rfl⟩ ?_
  exact zb []
theorem kidsC_y (b:List UInt8) (p:Nat) (c d:Int) {x y:KT} {p1 p2:Nat} {c1 c2 e:Int} (cx:FnB Tryz.prog G 177 [cB b p c] [.c (.ptr 0 0),.c (.int .i64 d)] [.agg (encK x),.c .nilif] [(0,cB b p1 c1)]) (cy:FnB Tryz.prog G 177 [cB b p1 c1] [.c (.ptr 0 0),.c (.int .i64 d)] [.agg (encK y),.c (errC e)] [(0,cB b p2 c2)]):FnB Tryz.prog G 181 [cB b p c] [.c (.ptr 0 0),.c (.int .i64 2),.c (.int .i64 d)] [.c .nilsl,.c (errC e)] [(0,cB b p2 c2)]:=by
 refine zf Tryz.func181 ?_
 refine zg [] [] [(0:Int)≤(0:Int),(0:Int)≤(2:Int),(2:Int)*(↑(56:Nat):Int)≤(140737488355328:Int)] ⟨oM,oM,(show (2:Int)*(↑(56:Nat):Int)≤(140737488355328:Int) from oM)⟩ ?_
 refine zl (fun (j:Nat)=>match j with | 0=>kcSt b d 2 0 p c 0 zeroT | _=>kcSt b d 2 1 p1 c1 1 (rowF encK .nil [x])) (fun j=>j≤1) (fun j=>1-j) 0 (Nat.zero_le _) ?_ [(49,49)]
 intro j L hj again
 obtain rfl | rfl:j=0∨j=1:=by omega
 ·have e1:=kid_new2 (e:=101) zeroT x
  refine zg [(7,{bs:=[(3,.row 101 4 1 (rowF encK .nil [x]))]}),(4,{cs:=[(2,cb [0] cx)]})] [true,false] [decide ((0:Int)<(2:Int))=true,(!true)=false,56≤140737488355328,BlkEqv (.row 101 4 1 (catF 0 zeroT fun i j=>nthD (encK x) ((0+i)*4+j))) (.row 101 4 1 (rowF encK KT.nil [x])),0≤0,0+1≤1,inR .i64 (0+1)] ⟨rfl,rfl,oM,aS,oM,oM,i6⟩ ?_
  exact za [(49,353)] (again _ 1 oM oM)
 ·refine zg [(4,{cs:=[(2,cb [0] cy)]})] [true,true] [decide ((1:Int)<(2:Int))=true,(!false)=true] ⟨rfl,rfl⟩ ?_
  exact zb []
theorem kidsC_2 (b:List UInt8) (p:Nat) (c d:Int) {x y:KT} {p1 p2:Nat} {c1 c2:Int} (cx:FnB Tryz.prog G 177 [cB b p c] [.c (.ptr 0 0),.c (.int .i64 d)] [.agg (encK x),.c .nilif] [(0,cB b p1 c1)]) (cy:FnB Tryz.prog G 177 [cB b p1 c1] [.c (.ptr 0 0),.c (.int .i64 d)] [.agg (encK y),.c .nilif] [(0,cB b p2 c2)]):FnB Tryz.prog G 181 [cB b p c] [.c (.ptr 0 0),.c (.int .i64 2),.c (.int .i64 d)] [.c (.sl 4 2 (rowF encK .nil [x,y])),.c .nilif] [(0,cB b p2 c2)]:=by
 refine zf Tryz.func181 ?_
 refine zg [] [] [(0:Int)≤(0:Int),(0:Int)≤(2:Int),(2:Int)*(↑(56:Nat):Int)≤(140737488355328:Int)] ⟨oM,oM,(show (2:Int)*(↑(56:Nat):Int)≤(140737488355328:Int) from oM)⟩ ?_
 refine zl (fun (j:Nat)=>match j with | 0=>kcSt b d 2 0 p c 0 zeroT | 1=>kcSt b d 2 1 p1 c1 1 (rowF encK .nil [x]) | _=>kcSt b d 2 2 p2 c2 2 (rowF encK .nil [x,y])) (fun j=>j≤2) (fun j=>2-j) 0 (Nat.zero_le _) ?_ [(49,49)]
 intro j L hj again
 obtain rfl | rfl | rfl:j=0∨j=1∨j=2:=by omega
 ·have e1:=kid_new2 (e:=101) zeroT x
  refine zg [(7,{bs:=[(3,.row 101 4 1 (rowF encK .nil [x]))]}),(4,{cs:=[(2,cb [0] cx)]})] [true,false] [decide ((0:Int)<(2:Int))=true,(!true)=false,56≤140737488355328,BlkEqv (.row 101 4 1 (catF 0 zeroT fun i j=>nthD (encK x) ((0+i)*4+j))) (.row 101 4 1 (rowF encK KT.nil [x])),0≤0,0+1≤1,inR .i64 (0+1)] ⟨rfl,rfl,oM,aS,oM,oM,i6⟩ ?_
  exact za [(49,353)] (again _ 1 oM oM)
 ·have e3:BlkEqv (.row 101 4 (1+1) (catF 1 (rowF encK .nil [x]) (fun i j=>nthD (encK y) ((0+i)*4+j)))) (.row 101 4 (1+1) (rowF encK .nil [x,y])):=enc_app [x] y rfl
  refine zg [(7,{bs:=[(3,.row 101 4 2 (rowF encK .nil [x,y]))]}),(4,{cs:=[(2,cb [0] cy)]})] [true,false] [decide ((1:Int)<(2:Int))=true,(!true)=false,112≤140737488355328,BlkEqv (.row 101 4 2 (catF 1 (rowF encK KT.nil [x]) fun i j=>nthD (encK y) ((0+i)*4+j))) (.row 101 4 2 (rowF encK KT.nil [x,y])),1≤1,0+1≤1,inR .i64 (1+1)] ⟨rfl,rfl,oM,aS,oM,oM,i6⟩ ?_
  exact za [(49,353)] (again _ 2 oM oM)
 ·refine Wp.ent' kR (Ent.pubT (t:=8) (e:=101) (sz:=4) (id:=49) (off:=0) (m:=2) (n:=2) (f:=rowF encK .nil [x,y]) (m':=2) (f':=rowF encK .nil [x,y]) kR kR oM rfl (fun i _ j _=>by rw [Nat.zero_add]) rfl) ?_
  refine zg [] [false] [decide ((2:Int)<(2:Int))=false] rfl ?_
  exact zb []
theorem term_k3 (b:List UInt8) (hb:b.length≤30000000000000) (f p l:Nat) (hf:f<16) (hl:0<l) (hl2:l≤64) (hp:p<b.length) (hk:(b.getD p 0).toNat=3) {F:Nat→Nat→Cell} {p1:Nat} {c1:Int} (ck:FnB Tryz.prog G 181 [cB b (p+1) ((64:Int)-(l:Int)+1)] [.c (.ptr 0 0),.c (.int .i64 1),.c (.int .i64 (17-(f:Int)))] [.c (.sl 4 1 F),.c .nilif] [(0,cB b p1 c1)]):FnB Tryz.prog G 177 [cB b p ((64:Int)-(l:Int))] [.c (.ptr 0 0),.c (.int .i64 (17-((f+1:Nat):Int)))] [.agg (encK ⟨3,0,[],1,F⟩),.c .nilif] [(0,cB b p1 c1)]:=by
 refine zf Tryz.func177 ?_
 have ht0:(bif decide ((64:Int)-(l:Int)+1>64) then true else decide (17-((f+1:Nat):Int)>16))=false:=by rw [decide_eq_false oM,decide_eq_false oM];rfl
 have c9:=take_one (G:=G) b hb p ((64:Int)-(l:Int)+1) hp hk
 have e2:=deep_D f
 refine zg [(16,{cs:=[(3,cb [0] ck)],fm:=[(2,.c (.int .i64 ((17:Int)-(f:Int))))]}),(4,{cs:=[(1,cb [0] c9)]})] [false,false,false,false,true,true] [inR .i64 (64-(l:Int)+1),(bif decide ((64:Int)-(l:Int)+(1:Int)>(64:Int)) then true else decide ((17:Int)-(↑(f+(1:Nat)):Int)>(16:Int)))=false,(!true)=false,(0:Int)≤(0:Int)∧(0:Int)<(↑(1:Nat):Int),(IntKind.i64.wrap (↑(3:Nat):Int)==(1:Int))=false,(IntKind.i64.wrap (↑(3:Nat):Int)==(2:Int))=false,(IntKind.i64.wrap (↑(3:Nat):Int)==(3:Int))=true,(IntKind.i64.wrap (↑(3:Nat):Int)==(3:Int))=true,EqvI (.c (.int .i64 ((17:Int)-(↑(f+(1:Nat)):Int)+(1:Int)))) (.c (.int .i64 ((17:Int)-(f:Int)))),EqvD (.c (.int .i64 ((17:Int)-(↑(f+(1:Nat)):Int)+(1:Int)))) (.c (.int .i64 ((17:Int)-(f:Int)))),inR .i64 ((17:Int)-(↑(f+(1:Nat)):Int)+(1:Int))] ⟨i6,aS,rfl,oM,rfl,rfl,rfl,rfl,fun _ _=>trivial,aS,i6⟩ ?_
 exact zb []
theorem term_kx3 (b:List UInt8) (hb:b.length≤30000000000000) (f p l:Nat) (hf:f<16) (hl:0<l) (hl2:l≤64) (hp:p<b.length) (hk:(b.getD p 0).toNat=3) {p1:Nat} {c1 e:Int} (ck:FnB Tryz.prog G 181 [cB b (p+1) ((64:Int)-(l:Int)+1)] [.c (.ptr 0 0),.c (.int .i64 1),.c (.int .i64 (17-(f:Int)))] [.c .nilsl,.c (errC e)] [(0,cB b p1 c1)]):FnB Tryz.prog G 177 [cB b p ((64:Int)-(l:Int))] [.c (.ptr 0 0),.c (.int .i64 (17-((f+1:Nat):Int)))] [.agg (encK ⟨3,0,[],0,fun _ _ => .nilif⟩),.c (errC e)] [(0,cB b p1 c1)]:=by
 refine zf Tryz.func177 ?_
 have ht0:(bif decide ((64:Int)-(l:Int)+1>64) then true else decide (17-((f+1:Nat):Int)>16))=false:=by rw [decide_eq_false oM,decide_eq_false oM];rfl
 have c9:=take_one (G:=G) b hb p ((64:Int)-(l:Int)+1) hp hk
 have e2:=deep_D f
 have eD:=@kids_D 3 0 [] (fun _ _ => .nilif)
 have eI:=@kids_I 3 0 [] (fun _ _ => .nilif)
 refine zg [(16,{cs:=[(3,cb [0] ck)],fm:=[(2,.c (.int .i64 ((17:Int)-(f:Int))))]}),(21,{fm:=[(0,.agg [.int .i64 3,.int .i64 0,.str [],.sl 4 0 (fun _ _ => .nilif)])]}),(4,{cs:=[(1,cb [0] c9)]})] [false,false,false,false,true,true] [inR .i64 (64-(l:Int)+1),(bif decide ((64:Int)-(l:Int)+(1:Int)>(64:Int)) then true else decide ((17:Int)-(↑(f+(1:Nat)):Int)>(16:Int)))=false,(!true)=false,(0:Int)≤(0:Int)∧(0:Int)<(↑(1:Nat):Int),(IntKind.i64.wrap (↑(3:Nat):Int)==(1:Int))=false,(IntKind.i64.wrap (↑(3:Nat):Int)==(2:Int))=false,(IntKind.i64.wrap (↑(3:Nat):Int)==(3:Int))=true,(IntKind.i64.wrap (↑(3:Nat):Int)==(3:Int))=true,EqvI (.c (.int .i64 ((17:Int)-(↑(f+(1:Nat)):Int)+(1:Int)))) (.c (.int .i64 ((17:Int)-(f:Int)))),EqvD (.c (.int .i64 ((17:Int)-(↑(f+(1:Nat)):Int)+(1:Int)))) (.c (.int .i64 ((17:Int)-(f:Int)))),inR .i64 ((17:Int)-(↑(f+(1:Nat)):Int)+(1:Int)),EqvI (.agg [.int .i64 (IntKind.i64.wrap (↑(3:Nat):Int)),.int .i64 0,.str [],.nilsl]) (.agg [.int .i64 3,.int .i64 0,.str [],.sl 4 (0:Nat) fun (x x_1:Nat) => .nilif]),EqvD (.agg [.int .i64 (IntKind.i64.wrap (↑(3:Nat):Int)),.int .i64 0,.str [],.nilsl]) (.agg [.int .i64 3,.int .i64 0,.str [],.sl 4 (0:Nat) fun (x x_1:Nat) => .nilif])] ⟨i6,aS,rfl,oM,rfl,rfl,rfl,rfl,fun _ _=>trivial,aS,i6,eqvI_flat _ _ kR,(show EqvD (.agg [.int .i64 (IntKind.i64.wrap (↑(3:Nat):Int)),.int .i64 (0:Int),.str [],.nilsl]) (.agg [.int .i64 (3:Int),.int .i64 (0:Int),.str [],.sl (4:Nat) (0:Nat) fun (x x_1:Nat) => .nilif]) from aS)⟩ ?_
 exact zb []
theorem term_k4 (b:List UInt8) (hb:b.length≤30000000000000) (f p l:Nat) (hf:f<16) (hl:0<l) (hl2:l≤64) (hp:p<b.length) (hk:(b.getD p 0).toNat=4) {F:Nat→Nat→Cell} {p1:Nat} {c1:Int} (ck:FnB Tryz.prog G 181 [cB b (p+1) ((64:Int)-(l:Int)+1)] [.c (.ptr 0 0),.c (.int .i64 1),.c (.int .i64 (17-(f:Int)))] [.c (.sl 4 1 F),.c .nilif] [(0,cB b p1 c1)]):FnB Tryz.prog G 177 [cB b p ((64:Int)-(l:Int))] [.c (.ptr 0 0),.c (.int .i64 (17-((f+1:Nat):Int)))] [.agg (encK ⟨4,0,[],1,F⟩),.c .nilif] [(0,cB b p1 c1)]:=by
 refine zf Tryz.func177 ?_
 have ht0:(bif decide ((64:Int)-(l:Int)+1>64) then true else decide (17-((f+1:Nat):Int)>16))=false:=by rw [decide_eq_false oM,decide_eq_false oM];rfl
 have c9:=take_one (G:=G) b hb p ((64:Int)-(l:Int)+1) hp hk
 have e2:=deep_D f
 refine zg [(16,{cs:=[(3,cb [0] ck)],fm:=[(2,.c (.int .i64 ((17:Int)-(f:Int))))]}),(4,{cs:=[(1,cb [0] c9)]})] [false,false,false,false,false,true] [inR .i64 (64-(l:Int)+1),(bif decide ((64:Int)-(l:Int)+(1:Int)>(64:Int)) then true else decide ((17:Int)-(↑(f+(1:Nat)):Int)>(16:Int)))=false,(!true)=false,(0:Int)≤(0:Int)∧(0:Int)<(↑(1:Nat):Int),(IntKind.i64.wrap (↑(4:Nat):Int)==(1:Int))=false,(IntKind.i64.wrap (↑(4:Nat):Int)==(2:Int))=false,(IntKind.i64.wrap (↑(4:Nat):Int)==(3:Int))=false,(IntKind.i64.wrap (↑(4:Nat):Int)==(4:Int))=true,EqvI (.c (.int .i64 ((17:Int)-(↑(f+(1:Nat)):Int)+(1:Int)))) (.c (.int .i64 ((17:Int)-(f:Int)))),EqvD (.c (.int .i64 ((17:Int)-(↑(f+(1:Nat)):Int)+(1:Int)))) (.c (.int .i64 ((17:Int)-(f:Int)))),inR .i64 ((17:Int)-(↑(f+(1:Nat)):Int)+(1:Int))] ⟨i6,aS,rfl,oM,rfl,rfl,rfl,rfl,fun _ _=>trivial,aS,i6⟩ ?_
 exact zb []
theorem term_kx4 (b:List UInt8) (hb:b.length≤30000000000000) (f p l:Nat) (hf:f<16) (hl:0<l) (hl2:l≤64) (hp:p<b.length) (hk:(b.getD p 0).toNat=4) {p1:Nat} {c1 e:Int} (ck:FnB Tryz.prog G 181 [cB b (p+1) ((64:Int)-(l:Int)+1)] [.c (.ptr 0 0),.c (.int .i64 1),.c (.int .i64 (17-(f:Int)))] [.c .nilsl,.c (errC e)] [(0,cB b p1 c1)]):FnB Tryz.prog G 177 [cB b p ((64:Int)-(l:Int))] [.c (.ptr 0 0),.c (.int .i64 (17-((f+1:Nat):Int)))] [.agg (encK ⟨4,0,[],0,fun _ _ => .nilif⟩),.c (errC e)] [(0,cB b p1 c1)]:=by
 refine zf Tryz.func177 ?_
 have ht0:(bif decide ((64:Int)-(l:Int)+1>64) then true else decide (17-((f+1:Nat):Int)>16))=false:=by rw [decide_eq_false oM,decide_eq_false oM];rfl
 have c9:=take_one (G:=G) b hb p ((64:Int)-(l:Int)+1) hp hk
 have e2:=deep_D f
 have eD:=@kids_D 4 0 [] (fun _ _ => .nilif)
 have eI:=@kids_I 4 0 [] (fun _ _ => .nilif)
 refine zg [(16,{cs:=[(3,cb [0] ck)],fm:=[(2,.c (.int .i64 ((17:Int)-(f:Int))))]}),(21,{fm:=[(0,.agg [.int .i64 4,.int .i64 0,.str [],.sl 4 0 (fun _ _ => .nilif)])]}),(4,{cs:=[(1,cb [0] c9)]})] [false,false,false,false,false,true] [inR .i64 (64-(l:Int)+1),(bif decide ((64:Int)-(l:Int)+(1:Int)>(64:Int)) then true else decide ((17:Int)-(↑(f+(1:Nat)):Int)>(16:Int)))=false,(!true)=false,(0:Int)≤(0:Int)∧(0:Int)<(↑(1:Nat):Int),(IntKind.i64.wrap (↑(4:Nat):Int)==(1:Int))=false,(IntKind.i64.wrap (↑(4:Nat):Int)==(2:Int))=false,(IntKind.i64.wrap (↑(4:Nat):Int)==(3:Int))=false,(IntKind.i64.wrap (↑(4:Nat):Int)==(4:Int))=true,EqvI (.c (.int .i64 ((17:Int)-(↑(f+(1:Nat)):Int)+(1:Int)))) (.c (.int .i64 ((17:Int)-(f:Int)))),EqvD (.c (.int .i64 ((17:Int)-(↑(f+(1:Nat)):Int)+(1:Int)))) (.c (.int .i64 ((17:Int)-(f:Int)))),inR .i64 ((17:Int)-(↑(f+(1:Nat)):Int)+(1:Int)),EqvI (.agg [.int .i64 (IntKind.i64.wrap (↑(4:Nat):Int)),.int .i64 0,.str [],.nilsl]) (.agg [.int .i64 4,.int .i64 0,.str [],.sl 4 (0:Nat) fun (x x_1:Nat) => .nilif]),EqvD (.agg [.int .i64 (IntKind.i64.wrap (↑(4:Nat):Int)),.int .i64 0,.str [],.nilsl]) (.agg [.int .i64 4,.int .i64 0,.str [],.sl 4 (0:Nat) fun (x x_1:Nat) => .nilif])] ⟨i6,aS,rfl,oM,rfl,rfl,rfl,rfl,fun _ _=>trivial,aS,i6,eqvI_flat _ _ kR,(show EqvD (.agg [.int .i64 (IntKind.i64.wrap (↑(4:Nat):Int)),.int .i64 (0:Int),.str [],.nilsl]) (.agg [.int .i64 (4:Int),.int .i64 (0:Int),.str [],.sl (4:Nat) (0:Nat) fun (x x_1:Nat) => .nilif]) from aS)⟩ ?_
 exact zb []
theorem term_k5 (b:List UInt8) (hb:b.length≤30000000000000) (f p l:Nat) (hf:f<16) (hl:0<l) (hl2:l≤64) (hp:p<b.length) (hk:(b.getD p 0).toNat=5) {F:Nat→Nat→Cell} {p1:Nat} {c1:Int} (ck:FnB Tryz.prog G 181 [cB b (p+1) ((64:Int)-(l:Int)+1)] [.c (.ptr 0 0),.c (.int .i64 2),.c (.int .i64 (17-(f:Int)))] [.c (.sl 4 2 F),.c .nilif] [(0,cB b p1 c1)]):FnB Tryz.prog G 177 [cB b p ((64:Int)-(l:Int))] [.c (.ptr 0 0),.c (.int .i64 (17-((f+1:Nat):Int)))] [.agg (encK ⟨5,0,[],2,F⟩),.c .nilif] [(0,cB b p1 c1)]:=by
 refine zf Tryz.func177 ?_
 have ht0:(bif decide ((64:Int)-(l:Int)+1>64) then true else decide (17-((f+1:Nat):Int)>16))=false:=by rw [decide_eq_false oM,decide_eq_false oM];rfl
 have c9:=take_one (G:=G) b hb p ((64:Int)-(l:Int)+1) hp hk
 have e2:=deep_D f
 refine zg [(20,{cs:=[(3,cb [0] ck)],fm:=[(2,.c (.int .i64 ((17:Int)-(f:Int))))]}),(4,{cs:=[(1,cb [0] c9)]})] [false,false,false,false,false,false,true,true] [inR .i64 (64-(l:Int)+1),(bif decide ((64:Int)-(l:Int)+(1:Int)>(64:Int)) then true else decide ((17:Int)-(↑(f+(1:Nat)):Int)>(16:Int)))=false,(!true)=false,(0:Int)≤(0:Int)∧(0:Int)<(↑(1:Nat):Int),(IntKind.i64.wrap (↑(5:Nat):Int)==(1:Int))=false,(IntKind.i64.wrap (↑(5:Nat):Int)==(2:Int))=false,(IntKind.i64.wrap (↑(5:Nat):Int)==(3:Int))=false,(IntKind.i64.wrap (↑(5:Nat):Int)==(4:Int))=false,(IntKind.i64.wrap (↑(5:Nat):Int)==(5:Int))=true,(IntKind.i64.wrap (↑(5:Nat):Int)==(5:Int))=true,EqvI (.c (.int .i64 ((17:Int)-(↑(f+(1:Nat)):Int)+(1:Int)))) (.c (.int .i64 ((17:Int)-(f:Int)))),EqvD (.c (.int .i64 ((17:Int)-(↑(f+(1:Nat)):Int)+(1:Int)))) (.c (.int .i64 ((17:Int)-(f:Int)))),inR .i64 ((17:Int)-(↑(f+(1:Nat)):Int)+(1:Int))] ⟨i6,aS,rfl,oM,rfl,rfl,rfl,rfl,rfl,rfl,fun _ _=>trivial,aS,i6⟩ ?_
 exact zb []
theorem term_kx5 (b:List UInt8) (hb:b.length≤30000000000000) (f p l:Nat) (hf:f<16) (hl:0<l) (hl2:l≤64) (hp:p<b.length) (hk:(b.getD p 0).toNat=5) {p1:Nat} {c1 e:Int} (ck:FnB Tryz.prog G 181 [cB b (p+1) ((64:Int)-(l:Int)+1)] [.c (.ptr 0 0),.c (.int .i64 2),.c (.int .i64 (17-(f:Int)))] [.c .nilsl,.c (errC e)] [(0,cB b p1 c1)]):FnB Tryz.prog G 177 [cB b p ((64:Int)-(l:Int))] [.c (.ptr 0 0),.c (.int .i64 (17-((f+1:Nat):Int)))] [.agg (encK ⟨5,0,[],0,fun _ _ => .nilif⟩),.c (errC e)] [(0,cB b p1 c1)]:=by
 refine zf Tryz.func177 ?_
 have ht0:(bif decide ((64:Int)-(l:Int)+1>64) then true else decide (17-((f+1:Nat):Int)>16))=false:=by rw [decide_eq_false oM,decide_eq_false oM];rfl
 have c9:=take_one (G:=G) b hb p ((64:Int)-(l:Int)+1) hp hk
 have e2:=deep_D f
 have eD:=@kids_D 5 0 [] (fun _ _ => .nilif)
 have eI:=@kids_I 5 0 [] (fun _ _ => .nilif)
 refine zg [(20,{cs:=[(3,cb [0] ck)],fm:=[(2,.c (.int .i64 ((17:Int)-(f:Int))))]}),(21,{fm:=[(0,.agg [.int .i64 5,.int .i64 0,.str [],.sl 4 0 (fun _ _ => .nilif)])]}),(4,{cs:=[(1,cb [0] c9)]})] [false,false,false,false,false,false,true,true] [inR .i64 (64-(l:Int)+1),(bif decide ((64:Int)-(l:Int)+(1:Int)>(64:Int)) then true else decide ((17:Int)-(↑(f+(1:Nat)):Int)>(16:Int)))=false,(!true)=false,(0:Int)≤(0:Int)∧(0:Int)<(↑(1:Nat):Int),(IntKind.i64.wrap (↑(5:Nat):Int)==(1:Int))=false,(IntKind.i64.wrap (↑(5:Nat):Int)==(2:Int))=false,(IntKind.i64.wrap (↑(5:Nat):Int)==(3:Int))=false,(IntKind.i64.wrap (↑(5:Nat):Int)==(4:Int))=false,(IntKind.i64.wrap (↑(5:Nat):Int)==(5:Int))=true,(IntKind.i64.wrap (↑(5:Nat):Int)==(5:Int))=true,EqvI (.c (.int .i64 ((17:Int)-(↑(f+(1:Nat)):Int)+(1:Int)))) (.c (.int .i64 ((17:Int)-(f:Int)))),EqvD (.c (.int .i64 ((17:Int)-(↑(f+(1:Nat)):Int)+(1:Int)))) (.c (.int .i64 ((17:Int)-(f:Int)))),inR .i64 ((17:Int)-(↑(f+(1:Nat)):Int)+(1:Int)),EqvI (.agg [.int .i64 (IntKind.i64.wrap (↑(5:Nat):Int)),.int .i64 0,.str [],.nilsl]) (.agg [.int .i64 5,.int .i64 0,.str [],.sl 4 (0:Nat) fun (x x_1:Nat) => .nilif]),EqvD (.agg [.int .i64 (IntKind.i64.wrap (↑(5:Nat):Int)),.int .i64 0,.str [],.nilsl]) (.agg [.int .i64 5,.int .i64 0,.str [],.sl 4 (0:Nat) fun (x x_1:Nat) => .nilif])] ⟨i6,aS,rfl,oM,rfl,rfl,rfl,rfl,rfl,rfl,fun _ _=>trivial,aS,i6,eqvI_flat _ _ kR,(show EqvD (.agg [.int .i64 (IntKind.i64.wrap (↑(5:Nat):Int)),.int .i64 (0:Int),.str [],.nilsl]) (.agg [.int .i64 (5:Int),.int .i64 (0:Int),.str [],.sl (4:Nat) (0:Nat) fun (x x_1:Nat) => .nilif]) from aS)⟩ ?_
 exact zb []
theorem term_k6 (b:List UInt8) (hb:b.length≤30000000000000) (f p l:Nat) (hf:f<16) (hl:0<l) (hl2:l≤64) (hp:p<b.length) (hk:(b.getD p 0).toNat=6) {F:Nat→Nat→Cell} {p1:Nat} {c1:Int} (ck:FnB Tryz.prog G 181 [cB b (p+1) ((64:Int)-(l:Int)+1)] [.c (.ptr 0 0),.c (.int .i64 2),.c (.int .i64 (17-(f:Int)))] [.c (.sl 4 2 F),.c .nilif] [(0,cB b p1 c1)]):FnB Tryz.prog G 177 [cB b p ((64:Int)-(l:Int))] [.c (.ptr 0 0),.c (.int .i64 (17-((f+1:Nat):Int)))] [.agg (encK ⟨6,0,[],2,F⟩),.c .nilif] [(0,cB b p1 c1)]:=by
 refine zf Tryz.func177 ?_
 have ht0:(bif decide ((64:Int)-(l:Int)+1>64) then true else decide (17-((f+1:Nat):Int)>16))=false:=by rw [decide_eq_false oM,decide_eq_false oM];rfl
 have c9:=take_one (G:=G) b hb p ((64:Int)-(l:Int)+1) hp hk
 have e2:=deep_D f
 refine zg [(20,{cs:=[(3,cb [0] ck)],fm:=[(2,.c (.int .i64 ((17:Int)-(f:Int))))]}),(4,{cs:=[(1,cb [0] c9)]})] [false,false,false,false,false,false,false,true,true] [inR .i64 (64-(l:Int)+1),(bif decide ((64:Int)-(l:Int)+(1:Int)>(64:Int)) then true else decide ((17:Int)-(↑(f+(1:Nat)):Int)>(16:Int)))=false,(!true)=false,(0:Int)≤(0:Int)∧(0:Int)<(↑(1:Nat):Int),(IntKind.i64.wrap (↑(6:Nat):Int)==(1:Int))=false,(IntKind.i64.wrap (↑(6:Nat):Int)==(2:Int))=false,(IntKind.i64.wrap (↑(6:Nat):Int)==(3:Int))=false,(IntKind.i64.wrap (↑(6:Nat):Int)==(4:Int))=false,(IntKind.i64.wrap (↑(6:Nat):Int)==(5:Int))=false,(IntKind.i64.wrap (↑(6:Nat):Int)==(6:Int))=true,(IntKind.i64.wrap (↑(6:Nat):Int)==(6:Int))=true,EqvI (.c (.int .i64 ((17:Int)-(↑(f+(1:Nat)):Int)+(1:Int)))) (.c (.int .i64 ((17:Int)-(f:Int)))),EqvD (.c (.int .i64 ((17:Int)-(↑(f+(1:Nat)):Int)+(1:Int)))) (.c (.int .i64 ((17:Int)-(f:Int)))),inR .i64 ((17:Int)-(↑(f+(1:Nat)):Int)+(1:Int))] ⟨i6,aS,rfl,oM,rfl,rfl,rfl,rfl,rfl,rfl,rfl,fun _ _=>trivial,aS,i6⟩ ?_
 exact zb []
theorem term_kx6 (b:List UInt8) (hb:b.length≤30000000000000) (f p l:Nat) (hf:f<16) (hl:0<l) (hl2:l≤64) (hp:p<b.length) (hk:(b.getD p 0).toNat=6) {p1:Nat} {c1 e:Int} (ck:FnB Tryz.prog G 181 [cB b (p+1) ((64:Int)-(l:Int)+1)] [.c (.ptr 0 0),.c (.int .i64 2),.c (.int .i64 (17-(f:Int)))] [.c .nilsl,.c (errC e)] [(0,cB b p1 c1)]):FnB Tryz.prog G 177 [cB b p ((64:Int)-(l:Int))] [.c (.ptr 0 0),.c (.int .i64 (17-((f+1:Nat):Int)))] [.agg (encK ⟨6,0,[],0,fun _ _ => .nilif⟩),.c (errC e)] [(0,cB b p1 c1)]:=by
 refine zf Tryz.func177 ?_
 have ht0:(bif decide ((64:Int)-(l:Int)+1>64) then true else decide (17-((f+1:Nat):Int)>16))=false:=by rw [decide_eq_false oM,decide_eq_false oM];rfl
 have c9:=take_one (G:=G) b hb p ((64:Int)-(l:Int)+1) hp hk
 have e2:=deep_D f
 have eD:=@kids_D 6 0 [] (fun _ _ => .nilif)
 have eI:=@kids_I 6 0 [] (fun _ _ => .nilif)
 refine zg [(20,{cs:=[(3,cb [0] ck)],fm:=[(2,.c (.int .i64 ((17:Int)-(f:Int))))]}),(21,{fm:=[(0,.agg [.int .i64 6,.int .i64 0,.str [],.sl 4 0 (fun _ _ => .nilif)])]}),(4,{cs:=[(1,cb [0] c9)]})] [false,false,false,false,false,false,false,true,true] [inR .i64 (64-(l:Int)+1),(bif decide ((64:Int)-(l:Int)+(1:Int)>(64:Int)) then true else decide ((17:Int)-(↑(f+(1:Nat)):Int)>(16:Int)))=false,(!true)=false,(0:Int)≤(0:Int)∧(0:Int)<(↑(1:Nat):Int),(IntKind.i64.wrap (↑(6:Nat):Int)==(1:Int))=false,(IntKind.i64.wrap (↑(6:Nat):Int)==(2:Int))=false,(IntKind.i64.wrap (↑(6:Nat):Int)==(3:Int))=false,(IntKind.i64.wrap (↑(6:Nat):Int)==(4:Int))=false,(IntKind.i64.wrap (↑(6:Nat):Int)==(5:Int))=false,(IntKind.i64.wrap (↑(6:Nat):Int)==(6:Int))=true,(IntKind.i64.wrap (↑(6:Nat):Int)==(6:Int))=true,EqvI (.c (.int .i64 ((17:Int)-(↑(f+(1:Nat)):Int)+(1:Int)))) (.c (.int .i64 ((17:Int)-(f:Int)))),EqvD (.c (.int .i64 ((17:Int)-(↑(f+(1:Nat)):Int)+(1:Int)))) (.c (.int .i64 ((17:Int)-(f:Int)))),inR .i64 ((17:Int)-(↑(f+(1:Nat)):Int)+(1:Int)),EqvI (.agg [.int .i64 (IntKind.i64.wrap (↑(6:Nat):Int)),.int .i64 0,.str [],.nilsl]) (.agg [.int .i64 6,.int .i64 0,.str [],.sl 4 (0:Nat) fun (x x_1:Nat) => .nilif]),EqvD (.agg [.int .i64 (IntKind.i64.wrap (↑(6:Nat):Int)),.int .i64 0,.str [],.nilsl]) (.agg [.int .i64 6,.int .i64 0,.str [],.sl 4 (0:Nat) fun (x x_1:Nat) => .nilif])] ⟨i6,aS,rfl,oM,rfl,rfl,rfl,rfl,rfl,rfl,rfl,fun _ _=>trivial,aS,i6,eqvI_flat _ _ kR,(show EqvD (.agg [.int .i64 (IntKind.i64.wrap (↑(6:Nat):Int)),.int .i64 (0:Int),.str [],.nilsl]) (.agg [.int .i64 (6:Int),.int .i64 (0:Int),.str [],.sl (4:Nat) (0:Nat) fun (x x_1:Nat) => .nilif]) from aS)⟩ ?_
 exact zb []
theorem term_k7 (b:List UInt8) (hb:b.length≤30000000000000) (f p l:Nat) (hf:f<16) (hl:0<l) (hl2:l≤64) (hp:p<b.length) (hk:(b.getD p 0).toNat=7) {F:Nat→Nat→Cell} {p1:Nat} {c1:Int} (ck:FnB Tryz.prog G 181 [cB b (p+1) ((64:Int)-(l:Int)+1)] [.c (.ptr 0 0),.c (.int .i64 2),.c (.int .i64 (17-(f:Int)))] [.c (.sl 4 2 F),.c .nilif] [(0,cB b p1 c1)]):FnB Tryz.prog G 177 [cB b p ((64:Int)-(l:Int))] [.c (.ptr 0 0),.c (.int .i64 (17-((f+1:Nat):Int)))] [.agg (encK ⟨7,0,[],2,F⟩),.c .nilif] [(0,cB b p1 c1)]:=by
 refine zf Tryz.func177 ?_
 have ht0:(bif decide ((64:Int)-(l:Int)+1>64) then true else decide (17-((f+1:Nat):Int)>16))=false:=by rw [decide_eq_false oM,decide_eq_false oM];rfl
 have c9:=take_one (G:=G) b hb p ((64:Int)-(l:Int)+1) hp hk
 have e2:=deep_D f
 refine zg [(20,{cs:=[(3,cb [0] ck)],fm:=[(2,.c (.int .i64 ((17:Int)-(f:Int))))]}),(4,{cs:=[(1,cb [0] c9)]})] [false,false,false,false,false,false,false,false,true] [inR .i64 (64-(l:Int)+1),(bif decide ((64:Int)-(l:Int)+(1:Int)>(64:Int)) then true else decide ((17:Int)-(↑(f+(1:Nat)):Int)>(16:Int)))=false,(!true)=false,(0:Int)≤(0:Int)∧(0:Int)<(↑(1:Nat):Int),(IntKind.i64.wrap (↑(7:Nat):Int)==(1:Int))=false,(IntKind.i64.wrap (↑(7:Nat):Int)==(2:Int))=false,(IntKind.i64.wrap (↑(7:Nat):Int)==(3:Int))=false,(IntKind.i64.wrap (↑(7:Nat):Int)==(4:Int))=false,(IntKind.i64.wrap (↑(7:Nat):Int)==(5:Int))=false,(IntKind.i64.wrap (↑(7:Nat):Int)==(6:Int))=false,(IntKind.i64.wrap (↑(7:Nat):Int)==(7:Int))=true,EqvI (.c (.int .i64 ((17:Int)-(↑(f+(1:Nat)):Int)+(1:Int)))) (.c (.int .i64 ((17:Int)-(f:Int)))),EqvD (.c (.int .i64 ((17:Int)-(↑(f+(1:Nat)):Int)+(1:Int)))) (.c (.int .i64 ((17:Int)-(f:Int)))),inR .i64 ((17:Int)-(↑(f+(1:Nat)):Int)+(1:Int))] ⟨i6,aS,rfl,oM,rfl,rfl,rfl,rfl,rfl,rfl,rfl,fun _ _=>trivial,aS,i6⟩ ?_
 exact zb []
theorem term_kx7 (b:List UInt8) (hb:b.length≤30000000000000) (f p l:Nat) (hf:f<16) (hl:0<l) (hl2:l≤64) (hp:p<b.length) (hk:(b.getD p 0).toNat=7) {p1:Nat} {c1 e:Int} (ck:FnB Tryz.prog G 181 [cB b (p+1) ((64:Int)-(l:Int)+1)] [.c (.ptr 0 0),.c (.int .i64 2),.c (.int .i64 (17-(f:Int)))] [.c .nilsl,.c (errC e)] [(0,cB b p1 c1)]):FnB Tryz.prog G 177 [cB b p ((64:Int)-(l:Int))] [.c (.ptr 0 0),.c (.int .i64 (17-((f+1:Nat):Int)))] [.agg (encK ⟨7,0,[],0,fun _ _ => .nilif⟩),.c (errC e)] [(0,cB b p1 c1)]:=by
 refine zf Tryz.func177 ?_
 have ht0:(bif decide ((64:Int)-(l:Int)+1>64) then true else decide (17-((f+1:Nat):Int)>16))=false:=by rw [decide_eq_false oM,decide_eq_false oM];rfl
 have c9:=take_one (G:=G) b hb p ((64:Int)-(l:Int)+1) hp hk
 have e2:=deep_D f
 have eD:=@kids_D 7 0 [] (fun _ _ => .nilif)
 have eI:=@kids_I 7 0 [] (fun _ _ => .nilif)
 refine zg [(20,{cs:=[(3,cb [0] ck)],fm:=[(2,.c (.int .i64 ((17:Int)-(f:Int))))]}),(21,{fm:=[(0,.agg [.int .i64 7,.int .i64 0,.str [],.sl 4 0 (fun _ _ => .nilif)])]}),(4,{cs:=[(1,cb [0] c9)]})] [false,false,false,false,false,false,false,false,true] [inR .i64 (64-(l:Int)+1),(bif decide ((64:Int)-(l:Int)+(1:Int)>(64:Int)) then true else decide ((17:Int)-(↑(f+(1:Nat)):Int)>(16:Int)))=false,(!true)=false,(0:Int)≤(0:Int)∧(0:Int)<(↑(1:Nat):Int),(IntKind.i64.wrap (↑(7:Nat):Int)==(1:Int))=false,(IntKind.i64.wrap (↑(7:Nat):Int)==(2:Int))=false,(IntKind.i64.wrap (↑(7:Nat):Int)==(3:Int))=false,(IntKind.i64.wrap (↑(7:Nat):Int)==(4:Int))=false,(IntKind.i64.wrap (↑(7:Nat):Int)==(5:Int))=false,(IntKind.i64.wrap (↑(7:Nat):Int)==(6:Int))=false,(IntKind.i64.wrap (↑(7:Nat):Int)==(7:Int))=true,EqvI (.c (.int .i64 ((17:Int)-(↑(f+(1:Nat)):Int)+(1:Int)))) (.c (.int .i64 ((17:Int)-(f:Int)))),EqvD (.c (.int .i64 ((17:Int)-(↑(f+(1:Nat)):Int)+(1:Int)))) (.c (.int .i64 ((17:Int)-(f:Int)))),inR .i64 ((17:Int)-(↑(f+(1:Nat)):Int)+(1:Int)),EqvI (.agg [.int .i64 (IntKind.i64.wrap (↑(7:Nat):Int)),.int .i64 0,.str [],.nilsl]) (.agg [.int .i64 7,.int .i64 0,.str [],.sl 4 (0:Nat) fun (x x_1:Nat) => .nilif]),EqvD (.agg [.int .i64 (IntKind.i64.wrap (↑(7:Nat):Int)),.int .i64 0,.str [],.nilsl]) (.agg [.int .i64 7,.int .i64 0,.str [],.sl 4 (0:Nat) fun (x x_1:Nat) => .nilif])] ⟨i6,aS,rfl,oM,rfl,rfl,rfl,rfl,rfl,rfl,rfl,fun _ _=>trivial,aS,i6,eqvI_flat _ _ kR,(show EqvD (.agg [.int .i64 (IntKind.i64.wrap (↑(7:Nat):Int)),.int .i64 (0:Int),.str [],.nilsl]) (.agg [.int .i64 (7:Int),.int .i64 (0:Int),.str [],.sl (4:Nat) (0:Nat) fun (x x_1:Nat) => .nilif]) from aS)⟩ ?_
 exact zb []
def TermR (G:Nat→Option (List Cell)) (b:List UInt8) (f p:Nat) (c:Int) (r:Option (Tm×Nat×Nat)):Prop:=match r with
 | some (t,p',l')=>FnB Tryz.prog G 177 [cB b p c] [.c (.ptr 0 0),.c (.int .i64 (17-(f:Int)))] [.agg (encK (toK t)),.c .nilif] [(0,cB b p' ((64:Int)-(l':Int)))]
 | none=>∃ (x:KT) (p':Nat) (c' e:Int),e≠0∧FnB Tryz.prog G 177 [cB b p c] [.c (.ptr 0 0),.c (.int .i64 (17-(f:Int)))] [.agg (encK x),.c (errC e)] [(0,cB b p' c')]
theorem term_ok (b:List UInt8) (hb:b.length≤30000000000000):∀ (f:Nat),f≤16→∀ (p l:Nat),p≤b.length→l≤64→TermR G b f p ((64:Int)-(l:Int)) (rdT b f p l)
 | 0,hf,p,l,hp,hl=>⟨_,_,_,_,dC,term_deep b 0 p l hf hl (.inl rfl)⟩
 | f+1,hf,p,l,hp,hl2=>by
  have ih:=term_ok b hb f oM
  rcases Nat.eq_zero_or_pos l with h0 | hl
  ·rw [rdT,if_pos h0]
   exact ⟨_,_,_,_,dC,term_deep b (f+1) p l hf hl2 (.inr h0)⟩
  rw [rdT,if_neg oM]
  have el:((64:Int)-((l-1:Nat):Int))=(64:Int)-(l:Int)+1:=by omega
  rcases Nat.lt_or_ge p b.length with hlt | hge
  ·rw [if_neg oM]
   have hk9:(b.getD p 0).toNat<256:=UInt8.toNat_lt _
   generalize hk:(b.getD p 0).toNat=k at hk9 ⊢
   by_cases k1:k=1
   ·subst k1
    rw [if_pos rfl]
    rcases Nat.lt_or_ge b.length (p+1+2) with h2 | h2
    ·rw [if_pos h2]
     exact ⟨_,_,_,_,dC,term_a1 b hb f p l hf hl hl2 hlt hk h2⟩
    ·rw [if_neg oM]
     generalize hn:(beN b (p+1) 2).toNat=n
     rcases Nat.lt_or_ge 1024 n with h3 | h3
     ·rw [if_pos h3]
      exact ⟨_,_,_,_,dC,term_a2 b hb f p l hf hl hl2 hlt hk h2 hn h3⟩
     ·rw [if_neg oM]
      rcases Nat.lt_or_ge b.length (p+1+2+n) with h4 | h4
      ·rw [if_pos h4]
       exact ⟨_,_,_,_,dC,term_a3 b hb f p l hf hl hl2 hlt hk h2 hn h3 h4⟩
      ·rw [if_neg oM]
       have:=term_a4 (G:=G) b hb f p l hf hl hl2 hlt hk h2 hn h3 h4
       rw [← el] at this
       exact this
   rw [if_neg k1]
   by_cases k2:k=2
   ·subst k2
    rw [if_pos rfl]
    rcases Nat.lt_or_ge b.length (p+1+4) with h2 | h2
    ·rw [if_pos h2]
     exact ⟨_,_,_,_,dC,term_n1 b hb f p l hf hl hl2 hlt hk h2⟩
    ·rw [if_neg oM]
     generalize hn:(beN b (p+1) 4).toNat=n
     rcases Nat.lt_or_ge 1073741824 n with h3 | h3
     ·rw [if_pos h3]
      exact ⟨_,_,_,_,dC,term_n2 b hb f p l hf hl hl2 hlt hk h2 hn h3⟩
     ·rw [if_neg oM]
      have:=term_n3 (G:=G) b hb f p l hf hl hl2 hlt hk h2 hn h3
      rw [← el] at this
      exact this
   rw [if_neg k2]
   have ih1:=ih (p+1) (l-1) oM oM
   rw [el] at ih1
   by_cases k34:k=3∨k=4
   ·rw [if_pos k34]
    cases h1:rdT b f (p+1) (l-1) with
    | none =>
     rw [h1] at ih1
     obtain ⟨x,p1,c1,e1,he,c⟩:=ih1
     rcases k34 with rfl | rfl
     ·exact ⟨_,_,_,_,he,term_kx3 b hb f p l hf hl hl2 hlt hk (kidsC_x b _ _ _ c)⟩
     ·exact ⟨_,_,_,_,he,term_kx4 b hb f p l hf hl hl2 hlt hk (kidsC_x b _ _ _ c)⟩
    | some r =>
     obtain ⟨t,p1,l1⟩:=r
     rw [h1] at ih1
     have c:=ih1
     rcases k34 with rfl | rfl
     ·exact term_k3 b hb f p l hf hl hl2 hlt hk (kidsC_1 b _ _ _ c)
     ·exact term_k4 b hb f p l hf hl hl2 hlt hk (kidsC_1 b _ _ _ c)
   rw [if_neg k34]
   by_cases k57:k=5∨k=6∨k=7
   ·rw [if_pos k57]
    cases h1:rdT b f (p+1) (l-1) with
    | none =>
     rw [h1] at ih1
     obtain ⟨x,p1,c1,e1,he,c⟩:=ih1
     rcases k57 with rfl | rfl | rfl
     ·exact ⟨_,_,_,_,he,term_kx5 b hb f p l hf hl hl2 hlt hk (kidsC_x2 b _ _ _ c)⟩
     ·exact ⟨_,_,_,_,he,term_kx6 b hb f p l hf hl hl2 hlt hk (kidsC_x2 b _ _ _ c)⟩
     ·exact ⟨_,_,_,_,he,term_kx7 b hb f p l hf hl hl2 hlt hk (kidsC_x2 b _ _ _ c)⟩
    | some r =>
     obtain ⟨t,p1,l1⟩:=r
     rw [h1] at ih1
     have c:=ih1
     have hle:=rdT_le b f _ _ _ _ _ h1
     have ih2:=ih p1 l1 hle.1 oM
     simp only []
     cases h2:rdT b f p1 l1 with
     | none =>
      rw [h2] at ih2
      obtain ⟨x,p2,c2,e2,he,d⟩:=ih2
      rcases k57 with rfl | rfl | rfl
      ·exact ⟨_,_,_,_,he,term_kx5 b hb f p l hf hl hl2 hlt hk (kidsC_y b _ _ _ c d)⟩
      ·exact ⟨_,_,_,_,he,term_kx6 b hb f p l hf hl hl2 hlt hk (kidsC_y b _ _ _ c d)⟩
      ·exact ⟨_,_,_,_,he,term_kx7 b hb f p l hf hl hl2 hlt hk (kidsC_y b _ _ _ c d)⟩
     | some r2 =>
      obtain ⟨u,p2,l2⟩:=r2
      rw [h2] at ih2
      have d:=ih2
      rcases k57 with rfl | rfl | rfl
      ·exact term_k5 b hb f p l hf hl hl2 hlt hk (kidsC_2 b _ _ _ c d)
      ·exact term_k6 b hb f p l hf hl hl2 hlt hk (kidsC_2 b _ _ _ c d)
      ·exact term_k7 b hb f p l hf hl hl2 hlt hk (kidsC_2 b _ _ _ c d)
   rw [if_neg k57]
   exact ⟨_,_,_,_,dC,term_bad b hb f p l hf hl hl2 hlt hk oM hk9⟩
  ·rw [if_pos oM]
   exact ⟨_,_,_,_,dC,term_short b hb f p l hf hl hl2 oM⟩
theorem takeC_good (b:List UInt8) (hb:b.length≤30000000000000) {t:Tm} {p l:Nat} (h:rdT b 16 0 64=some (t,p,l)):Pur Tryz.prog G 170 [.c (.sl 1 b.length (bytesF b))] [.agg (encK (toK t)),.c (.int .i64 (p:Int)),.c (.int .i64 0)]:=by
 have c:=term_ok (G:=G) b hb 16 dC 0 64 oM dC
 rw [h] at c
 have c:FnB Tryz.prog G 177 [cB b 0 0] [.c (.ptr 0 0),.c (.int .i64 1)] [.agg (encK (toK t)),.c .nilif] [(0,cB b p ((64:Int)-(l:Int)))]:=c
 refine zp Tryz.func170 ?_
 refine zg [(2,{cs:=[(1,cb [80] c)]})] [false] [false=false] rfl ?_
 exact zr
theorem takeC_bad (b:List UInt8) (hb:b.length≤30000000000000) (h:rdT b 16 0 64=none):∃ e:Int,e≠0∧Pur Tryz.prog G 170 [.c (.sl 1 b.length (bytesF b))] [.agg [.int .i64 0,.int .i64 0,.str [],.nilsl],.c (.int .i64 0),.c (.int .i64 e)]:=by
 have c:=term_ok (G:=G) b hb 16 dC 0 64 oM dC
 rw [h] at c
 obtain ⟨x,p',c',e,he,c⟩:=c
 refine ⟨e,he,?_⟩
 have c:FnB Tryz.prog G 177 [cB b 0 0] [.c (.ptr 0 0),.c (.int .i64 1)] [.agg (encK x),.c (errC e)] [(0,cB b p' c')]:=c
 refine zp Tryz.func170 ?_
 refine zg [(2,{cs:=[(1,cb [80] c)]})] [true] [true=true] rfl ?_
 exact zr
theorem oneC_good (b:List UInt8) (hb:b.length≤30000000000000) {t:Tm} (h:oneT b=some t):Pur Tryz.prog G 159 [.c (.sl 1 b.length (bytesF b))] [.agg (encK (toK t)),.c (.int .i64 0)]:=by
 unfold oneT at h
 split at h
 ·rename_i t2 p l h1
  split at h
  ·rename_i hp
   simp only [Option.some.injEq] at h
   subst h hp
   refine zp Tryz.func159 ?_
   have c:=takeC_good (G:=G) b hb h1
   have ht:(bif (0:Int)==0 then decide ((b.length:Int)<(b.length:Int)) else false)=false:=by simp
   refine zg [(1,{cs:=[(1,pc c)]})] [false,false] [(bif (0:Int)==(0:Int) then decide ((b.length:Int)<(b.length:Int)) else false)=false,((0:Int) != (0:Int))=false] ⟨aS,rfl⟩ ?_
   exact zr
  ·cases h
 ·cases h
theorem oneC_bad (b:List UInt8) (hb:b.length≤30000000000000) (h:oneT b=none):∃ e:Int,e≠0∧Pur Tryz.prog G 159 [.c (.sl 1 b.length (bytesF b))] [.agg [.int .i64 0,.int .i64 0,.str [],.nilsl],.c (.int .i64 e)]:=by
 unfold oneT at h
 split at h
 ·rename_i t2 p l h1
  split at h
  ·cases h
  ·rename_i hp
   refine ⟨5,by decide,?_⟩
   refine zp Tryz.func159 ?_
   have c:=takeC_good (G:=G) b hb h1
   have hle:=rdT_le b _ _ _ _ _ _ h1
   have ht:(bif (0:Int)==0 then decide ((p:Int)<(b.length:Int)) else false)=true:=by simp;omega
   refine zg [(1,{cs:=[(1,pc c)]})] [true,true] [(bif (0:Int)==(0:Int) then decide ((p:Int)<(b.length:Int)) else false)=true,((5:Int) != (0:Int))=true] ⟨aS,rfl⟩ ?_
   exact zr
 ·rename_i h1
  obtain ⟨e,he,c⟩:=takeC_bad (G:=G) b hb h1
  refine ⟨e,he,?_⟩
  refine zp Tryz.func159 ?_
  have ht:(bif e==0 then decide ((0:Int)<(b.length:Int)) else false)=false:=by simp [he]
  have ht2:(e != 0)=true:=by simp [he]
  refine zg [(1,{cs:=[(1,pc c)]})] [false,true] [(bif e==(0:Int) then decide ((0:Int)<(b.length:Int)) else false)=false,(e != (0:Int))=true] ⟨aS,(show (e != (0:Int))=true from aS)⟩ ?_
  exact zr
theorem innC_good (s:List UInt8) (hs:s.length≤30000000000000) {t:Tm} (h:innT s=some t) (hlen:∀ o,dec8 s=some o→o.length≤30000000000000):Pur Tryz.prog G 143 [.c (.str s)] [.agg (encK (toK t)),.c (.bool true)]:=by
 unfold innT at h
 split at h
 ·rename_i o ho
  have c1:=dec64_ok (G:=G) s hs
  rw [decR_some ho] at c1
  have c2:=oneC_good (G:=G) o (hlen o ho) h
  have e1:=slB_D o
  refine zp Tryz.func143 ?_
  cases o with
  | nil =>
   have c1:Pur Tryz.prog G 158 [.c (.str s)] [.c .nilsl,.c (.int .i64 0)]:=c1
   have c2:Pur Tryz.prog G 159 [.c (.sl 1 0 (bytesF []))] [.agg (encK (toK t)),.c (.int .i64 0)]:=c2
   have e1:=nil_sl (f:=bytesF [])
   refine zg [(4,{cs:=[(1,pc c2)],fm:=[(0,.c (.sl 1 0 (bytesF [])))]}),(1,{cs:=[(1,pc c1)]})] [false] [((0:Int) != (0:Int))=false,EqvI (.c .nilsl) (.c (.sl 1 0 (bytesF []))),EqvD (.c .nilsl) (.c (.sl 1 0 (bytesF [])))] ⟨rfl,fun _ _=>trivial,(show EqvD (.c .nilsl) (.c (.sl (1:Nat) (0:Nat) (bytesF []))) from aS)⟩ ?_
   exact zr
  | cons a r =>
   have c1:Pur Tryz.prog G 158 [.c (.str s)] [.c (.sl 1 (a::r).length (bytesF (a::r))),.c (.int .i64 0)]:=c1
   generalize a::r=o at c1 c2
   refine zg [(1,{cs:=[(1,pc c1)]}),(4,{cs:=[(1,pc c2)]})] [false] [((0:Int) != (0:Int))=false] rfl ?_
   exact zr
 ·cases h
theorem innC_bad (s:List UInt8) (hs:s.length≤30000000000000) (h:innT s=none) (hlen:∀ o,dec8 s=some o→o.length≤30000000000000):Pur Tryz.prog G 143 [.c (.str s)] [.agg [.int .i64 0,.int .i64 0,.str [],.nilsl],.c (.bool false)]:=by
 have c1:=dec64_ok (G:=G) s hs
 unfold innT at h
 refine zp Tryz.func143 ?_
 cases ho:dec8 s with
 | none =>
  rw [decR_none ho] at c1
  refine zg [(1,{cs:=[(1,pc c1)]})] [true] [((3:Int) != (0:Int))=true] rfl ?_
  exact zr
 | some o =>
  rw [decR_some ho] at c1
  rw [ho] at h
  obtain ⟨e,he,c2⟩:=oneC_bad (G:=G) o (hlen o ho) h
  have ht:(e==0)=false:=by simp [he]
  cases o with
  | nil =>
   have c1:Pur Tryz.prog G 158 [.c (.str s)] [.c .nilsl,.c (.int .i64 0)]:=c1
   have c2:Pur Tryz.prog G 159 [.c (.sl 1 0 (bytesF []))] [.agg [.int .i64 0,.int .i64 0,.str [],.nilsl],.c (.int .i64 e)]:=c2
   have e1:=nil_sl (f:=bytesF [])
   refine zg [(4,{cs:=[(1,pc c2)],fm:=[(0,.c (.sl 1 0 (bytesF [])))]}),(1,{cs:=[(1,pc c1)]})] [false] [((0:Int) != (0:Int))=false,EqvI (.c .nilsl) (.c (.sl 1 0 (bytesF []))),EqvD (.c .nilsl) (.c (.sl 1 0 (bytesF [])))] ⟨rfl,fun _ _=>trivial,(show EqvD (.c .nilsl) (.c (.sl (1:Nat) (0:Nat) (bytesF []))) from aS)⟩ ?_
   exact zS [.agg [.int .i64 (0:Int),.int .i64 (0:Int),.str [],.nilsl],.c (.bool (e==(0:Int)))] (by simp only [Int.ofNat_eq_natCast,Int.toNat_natCast,List.take_length,List.drop_zero, *])
  | cons a r =>
   have c1:Pur Tryz.prog G 158 [.c (.str s)] [.c (.sl 1 (a::r).length (bytesF (a::r))),.c (.int .i64 0)]:=c1
   generalize a::r=o at c1 c2
   refine zg [(1,{cs:=[(1,pc c1)]}),(4,{cs:=[(1,pc c2)]})] [false] [((0:Int) != (0:Int))=false] rfl ?_
   exact zS [.agg [.int .i64 (0:Int),.int .i64 (0:Int),.str [],.nilsl],.c (.bool (e==(0:Int)))] (by simp only [Int.ofNat_eq_natCast,Int.toNat_natCast,List.take_length,List.drop_zero, *])
theorem innerC_ok (s:List UInt8) (hs:s.length≤30000000000000):(∃ t,innT s=some t∧Pur Tryz.prog G 143 [.c (.str s)] [.agg (encK (toK t)),.c (.bool true)])∨(innT s=none∧Pur Tryz.prog G 143 [.c (.str s)] [.agg [.int .i64 0,.int .i64 0,.str [],.nilsl],.c (.bool false)]):=by
 have hl:∀ o,dec8 s=some o→o.length≤30000000000000:=fun o h=>by have:=dec8_len h;omega
 cases h:innT s with
 | none=>exact .inr ⟨rfl,innC_bad s hs h hl⟩
 | some t=>exact .inl ⟨t,rfl,innC_good s hs h hl⟩
def isHash (s:List UInt8):Bool:=match readT s with
 | some t=>(toK t).k==3
 | none=>false
theorem lib_HasSuffix (s p:List UInt8) (hl:s.length≤30000000000000):Pur Tryz.prog G 142 [.c (.str s),.c (.str p)] [.c (.bool (Lib.hasSuffix s p))]:=by
 have c:Pur Tryz.prog G 157 [.c (.str s),.c (.str p)] [.c (.bool (Lib.hasSuffix s p))]:=by
  refine zp Tryz.func157 ?_
  have hx:=Lib.hasSuffix_of_drop s p
  by_cases h:p.length≤s.length
  ·rw [decide_eq_true h,Bool.true_and] at hx
   have e2:EqvD (.c (.int .i64 ((s.length:Int)-(p.length:Int)))) (.c (.int .i64 ((s.length-p.length:Nat):Int))):=eqvD_of (by rw [show (s.length:Int)-(p.length:Int)=((s.length-p.length:Nat):Int) by omega])
   have e1:EqvD (.c (.str (List.drop (s.length-p.length) (List.take s.length s)))) (.c (.str (s.drop (s.length-p.length)))):=eqvD_of (by rw [List.take_length])
   rw [← hx]
   refine zg [(1,{fm:=[(11,.c (.int .i64 ((s.length-p.length:Nat):Int))),(12,.c (.str (s.drop (s.length-p.length))))]})] [] [EqvI (.c (.int .i64 ((s.length:Int)-(p.length:Int)))) (.c (.int .i64 (↑(s.length-p.length):Int))),decide ((s.length:Int)≥(p.length:Int))=true→EqvD (.c (.int .i64 ((s.length:Int)-(p.length:Int)))) (.c (.int .i64 (↑(s.length-p.length):Int))),decide ((s.length:Int)≥(p.length:Int))=true→inR .i64 ((s.length:Int)-(p.length:Int)),EqvI (.c (.str (List.drop (Int.ofNat (s.length-p.length)).toNat (List.take (Int.ofNat s.length).toNat s)))) (.c (.str (List.drop (s.length-p.length) s))),decide ((s.length:Int)≥(p.length:Int))=true→EqvD (.c (.str (List.drop (Int.ofNat (s.length-p.length)).toNat (List.take (Int.ofNat s.length).toNat s)))) (.c (.str (List.drop (s.length-p.length) s))),decide ((s.length:Int)≥(p.length:Int))=true→(0:Int)≤Int.ofNat (s.length-p.length)∧Int.ofNat (s.length-p.length)≤Int.ofNat s.length∧Int.ofNat s.length≤(s.length:Int)] ⟨fun _ _=>trivial,(by intro _;assumption),(fun _=>i6),fun _ _=>trivial,(by intro _;assumption),(show decide ((↑s.length:Int)≥(↑p.length:Int))=true→(0:Int)≤Int.ofNat (s.length-p.length)∧Int.ofNat (s.length-p.length)≤Int.ofNat s.length∧Int.ofNat s.length≤(↑s.length:Int) from (by simp;done))⟩ ?_
   exact zS [.c (.bool (bif decide ((↑s.length:Int)≥(↑p.length:Int)) then List.drop (s.length-p.length) s==p else false))] (by simp [*];done)
  ·rw [decide_eq_false h,Bool.false_and] at hx
   rw [← hx]
   refine zg [(1,{grd:=[(6,false),(7,false),(8,false),(9,false),(10,false),(11,false),(12,false),(13,false),(14,false),(15,false)]})] [] [decide ((s.length:Int)≥(p.length:Int)) = !true,decide ((s.length:Int)≥(p.length:Int)) = !true,decide ((s.length:Int)≥(p.length:Int)) = !true,decide ((s.length:Int)≥(p.length:Int)) = !true,decide ((s.length:Int)≥(p.length:Int)) = !true,decide ((s.length:Int)≥(p.length:Int)) = !true,decide ((s.length:Int)≥(p.length:Int)) = !true,decide ((s.length:Int)≥(p.length:Int)) = !true,decide ((s.length:Int)≥(p.length:Int)) = !true,decide ((s.length:Int)≥(p.length:Int))=false] ⟨sO,sO,sO,sO,sO,sO,sO,sO,sO,(show decide ((↑s.length:Int)≥(↑p.length:Int))=false from sO)⟩ ?_
   exact zr
 refine zp Tryz.func142 ?_
 refine z0 [(1,{cs:=[(2,pc c)]})] [] ?_
 exact zr
theorem tilde_b (c:UInt8):(c==126)=(((c.toNat:Nat):Int)==126):=eq_of_beq (byte_all (fun c=>(c==126)==(((c.toNat:Nat):Int)==126)) kR c)
theorem pre_tilde (s:List UInt8) (h:2≤s.length):Lib.hasPrefix s [126]=(((s.getD 0 0).toNat:Int)==126):=by
 match s,h with
 | a::r,_ =>
  rw [List.getD_cons_zero,← tilde_b a,Bool.beq_comm]
  show ((126:UInt8)==a&&List.isPrefixOf [] r)=_
  rw [List.isPrefixOf_nil_left,Bool.and_true]
theorem suf_tilde (s:List UInt8) (h:2≤s.length):Lib.hasSuffix s [126]=(((s.getD (s.length-1) 0).toNat:Int)==126):=by
 have hd:s.drop (s.length-1)=[s.getD (s.length-1) 0]:=by
  rw [List.drop_eq_getElem_cons oM,List.drop_of_length_le oM]
  simp [List.getD,show s.length-1<s.length by omega]
 rw [← tilde_b,← Lib.hasSuffix_of_drop,show ([126]:List UInt8).length=1 from rfl,hd,decide_eq_true oM]
 simp
theorem shape_eq (s:List UInt8) (h:2≤s.length):shapeT s=(Lib.hasPrefix s [126]&&Lib.hasSuffix s [126]):=by
 unfold shapeT
 rw [pre_tilde s h,suf_tilde s h,decide_eq_false oM]
 simp only [bne,cond_false]
 cases (((s.getD 0 0).toNat:Int)==126)<;>cases (((s.getD (s.length-1) 0).toNat:Int)==126)<;>rfl
theorem shape_short (s:List UInt8) (h:s.length<2):shapeT s=false:=by
 unfold shapeT
 rw [decide_eq_true oM]
 rfl
theorem readC_ok (s:List UInt8) (hs:s.length≤30000000000000):(∃ t,readT s=some t∧Pur Tryz.prog G 133 [.c (.str s)] [.agg (encK (toK t)),.c (.bool true)])∨(readT s=none∧Pur Tryz.prog G 133 [.c (.str s)] [.agg [.int .i64 0,.int .i64 0,.str [],.nilsl],.c (.bool false)]):=by
 unfold readT
 have cp:=lib_HasPrefix (G:=G) s [126]
 have cs:=lib_HasSuffix (G:=G) s [126] hs
 rcases Nat.lt_or_ge s.length 2 with h2 | h2
 ·rw [if_neg (by rw [shape_short s h2];decide)]
  refine .inr ⟨rfl,?_⟩
  refine zp Tryz.func133 ?_
  refine zg [(1,{grd:=[(4,false),(5,false),(6,false),(7,true),(9,false),(10,false),(11,false),(12,true)]})] [true] [decide ((s.length:Int)<2) = !false,decide ((s.length:Int)<2) = !false,decide ((s.length:Int)<2) = !false,decide ((s.length:Int)<2)=true,true = !false,true = !false,true = !false,true=true,true=true] ⟨sO,sO,sO,sO,rfl,rfl,rfl,rfl,rfl⟩ ?_
  exact zr
 ·have hsh:=shape_eq s h2
  have e1:EqvD (.c (.str (List.drop 1 (List.take (s.length-1) s)))) (.c (.str (coreT s))):=fun _ _ _ h=>h
  have e2:EqvD (.c (.int .i64 ((s.length:Int)-1))) (.c (.int .i64 ((s.length-1:Nat):Int))):=eqvD_of (by rw [show (s.length:Int)-1=((s.length-1:Nat):Int) by omega])
  have t2:decide ((s.length:Int)<2)=false:=decide_eq_false oM
  cases hp:Lib.hasPrefix s [126] with
  | false =>
   rw [hp] at hsh cp
   rw [if_neg (by rw [hsh];simp)]
   refine .inr ⟨rfl,?_⟩
   refine zp Tryz.func133 ?_
   clear hsh hp
   refine zg [(1,{cs:=[(5,pc cp)],grd:=[(9,false),(10,false),(11,false),(12,true)]})] [true] [(bif decide ((s.length:Int)<(2:Int)) then true else !false) = !false,(bif decide ((s.length:Int)<(2:Int)) then true else !false) = !false,(bif decide ((s.length:Int)<(2:Int)) then true else !false) = !false,(bif decide ((s.length:Int)<(2:Int)) then true else !false)=true,true=true] ⟨(by simp;done),(by simp;done),(by simp;done),(by simp;done),rfl⟩ ?_
   exact zr
  | true =>
   rw [hp] at hsh cp
   cases hq:Lib.hasSuffix s [126] with
   | false =>
    rw [hq] at hsh cs
    rw [if_neg (by rw [hsh];simp)]
    refine .inr ⟨rfl,?_⟩
    refine zp Tryz.func133 ?_
    clear hsh hp hq
    refine zg [(1,{cs:=[(5,pc cp),(10,pc cs)]})] [true] [(bif bif decide ((s.length:Int)<(2:Int)) then true else !true then true else !false)=true] (show (bif bif decide ((↑s.length:Int)<(2:Int)) then true else !true then true else !false)=true from (by simp;done)) ?_
    exact zr
   | true =>
    rw [hq] at hsh cs
    rw [if_pos (by rw [hsh];simp)]
    rcases innerC_ok (G:=G) (coreT s) (Nat.le_trans (coreT_len s) hs) with ⟨t,ht,c⟩ | ⟨ht,c⟩
    ·refine .inl ⟨t,ht,?_⟩
     refine zp Tryz.func133 ?_
     clear ht hsh hp hq
     refine zg [(3,{cs:=[(5,pc c)],fm:=[(3,.c (.int .i64 ((s.length-1:Nat):Int))),(4,.c (.str (coreT s)))]}),(1,{cs:=[(5,pc cp),(10,pc cs)]})] [false] [(bif bif decide ((s.length:Int)<(2:Int)) then true else !true then true else !true)=false,EqvI (.c (.int .i64 ((s.length:Int)-(1:Int)))) (.c (.int .i64 (↑(s.length-(1:Nat)):Int))),EqvD (.c (.int .i64 ((s.length:Int)-(1:Int)))) (.c (.int .i64 (↑(s.length-(1:Nat)):Int))),inR .i64 ((s.length:Int)-1),EqvI (.c (.str (List.drop (1:Nat) (List.take (Int.ofNat (s.length-(1:Nat))).toNat s)))) (.c (.str (coreT s))),EqvD (.c (.str (List.drop (1:Nat) (List.take (Int.ofNat (s.length-(1:Nat))).toNat s)))) (.c (.str (coreT s))),(0:Int)≤Int.ofNat (1)∧Int.ofNat (1)≤Int.ofNat (s.length-(1:Nat))∧Int.ofNat (s.length-(1:Nat))≤(s.length:Int)] ⟨sO,fun _ _=>trivial,aS,i6,fun _ _=>trivial,aS,⟨dC,⟨sO,(by simp;done)⟩⟩⟩ ?_
     exact zr
    ·refine .inr ⟨ht,?_⟩
     refine zp Tryz.func133 ?_
     clear ht hsh hp hq
     refine zg [(3,{cs:=[(5,pc c)],fm:=[(3,.c (.int .i64 ((s.length-1:Nat):Int))),(4,.c (.str (coreT s)))]}),(1,{cs:=[(5,pc cp),(10,pc cs)]})] [false] [(bif bif decide ((s.length:Int)<(2:Int)) then true else !true then true else !true)=false,EqvI (.c (.int .i64 ((s.length:Int)-(1:Int)))) (.c (.int .i64 (↑(s.length-(1:Nat)):Int))),EqvD (.c (.int .i64 ((s.length:Int)-(1:Int)))) (.c (.int .i64 (↑(s.length-(1:Nat)):Int))),inR .i64 ((s.length:Int)-1),EqvI (.c (.str (List.drop (1:Nat) (List.take (Int.ofNat (s.length-(1:Nat))).toNat s)))) (.c (.str (coreT s))),EqvD (.c (.str (List.drop (1:Nat) (List.take (Int.ofNat (s.length-(1:Nat))).toNat s)))) (.c (.str (coreT s))),(0:Int)≤Int.ofNat (1)∧Int.ofNat (1)≤Int.ofNat (s.length-(1:Nat))∧Int.ofNat (s.length-(1:Nat))≤(s.length:Int)] ⟨sO,fun _ _=>trivial,aS,i6,fun _ _=>trivial,aS,⟨dC,⟨sO,(by simp;done)⟩⟩⟩ ?_
     exact zr
theorem may18_ok (s:List UInt8) (hs:s.length≤30000000000000):Pur Tryz.prog G 58 [.c (.str s)] [.c (.bool (isHash s))]:=by
 refine zp Tryz.func58 ?_
 unfold isHash
 rcases read9_ok (G:=G) s hs with ⟨t,ht,c⟩ | ⟨ht,c⟩
 ·rw [ht]
  simp only []
  clear ht
  cases hk:((toK t).k==3) with
  | true =>
   refine z0 [(1,{cs:=[(1,pc c)]})] [] ?_
   exact zS [.c (.bool (bif true then (toK t).k==(3:Int) else false))] (by simp [*];done)
  | false =>
   refine z0 [(1,{cs:=[(1,pc c)]})] [] ?_
   exact zS [.c (.bool (bif true then (toK t).k==(3:Int) else false))] (by simp [*];done)
 ·rw [ht]
  refine z0 [(1,{cs:=[(1,pc c)]})] [] ?_
  exact zr
structure WT where (ty redir scope state nonce chal meth:List UInt8)
def WT.nil:WT:=⟨[],[],[],[],[],[],[]⟩
structure RcT where
 (kind key til:Int) (used:Bool) (client user sess fam:Int) (w:WT)
def RcT.nil:RcT:=⟨0,0,0,false,0,0,0,0,.nil⟩
def encW (w:WT):List Cell:=[.str w.ty,.str w.redir,.str w.scope,.str w.state,.str w.nonce,.str w.chal,.str w.meth]
def encRc (r:RcT):List Cell:=[.int .i64 r.kind,.int .i64 r.key,.int .i64 r.til,.bool r.used,.int .i64 r.client,.int .i64 r.user,.int .i64 r.sess,.int .i64 r.fam,.str r.w.ty,.str r.w.redir,.str r.w.scope,.str r.w.state,.str r.w.nonce,.str r.w.chal,.str r.w.meth]
def rcS (l:List RcT):Cell := .sl 15 l.length (rowF encRc .nil l)
def rcB (l:List RcT):Blk := .row 37 15 l.length (rowF encRc .nil l)
def bxN (d:Int):Blk := .box 3 [.int .i64 d]
structure SoT where (n conn now:Int)
def encSo (s:SoT):List Cell:=[.int .i64 s.n,.int .i64 s.conn,.int .i64 s.now]
def liveP (now:Int) (r:RcT):Bool:=decide (now<r.til)
def roomP (kind:Int) (r:RcT):Bool:=r.kind==kind
def liveT (now:Int) (l:List RcT):List RcT:=l.filter (liveP now)
def mostT (k:Int):Int:=bif k==1 then 6 else bif k==2 then 6 else bif k==3 then 6 else bif k==4 then 6 else bif k==5 then 12 else bif k==6 then 12 else 0
def lifeT (k:Int):Int:=bif k==1 then 60 else bif k==2 then 900 else bif k==3 then 120 else bif k==4 then 40 else bif k==5 then 300 else bif k==6 then 600 else 0
theorem dnext_ok (n:Int) (h:n≤1073741824) (h0 : -1000000000000≤n):Pur Tryz.prog G 114 [.c (.int .i64 n)] [.c (.int .i64 (n+1))]:=by
 refine zp Tryz.func114 ?_
 refine zg [] [false] [decide (n>(1073741824:Int))=false,inR .i64 (n+1)] ⟨sO,i6⟩ ?_
 exact zr
theorem drawn_ok (n:Int) (s t:SoT) (h:t.n≠s.n):Pur Tryz.prog G 115 [.c (.int .i64 n),.agg (encSo s),.agg (encSo t)] [.c (.int .i64 n),.agg (encSo t),.c (.bool true)]:=by
 refine zp Tryz.func115 ?_
 have hb:(t.n==s.n)=false:=by simpa using h
 have ht:((t.n==s.n)&&((t.conn==s.conn)&&((t.now==s.now)&&true)))=false:=by simp [hb]
 refine zg [] [false] [(t.n==s.n&&(t.conn==s.conn&&(t.now==s.now&&true)))=false] (oN aS) ?_
 exact zr
theorem nonce_ok (s:SoT) (h:s.n≤1073741824) (h0 : -1000000000000≤s.n):Pur Tryz.prog G 92 [.agg (encSo s)] [.c (.int .i64 s.n),.agg (encSo ⟨s.n+1,s.conn,s.now⟩),.c (.bool true)]:=by
 refine zp Tryz.func92 ?_
 have c:Pur Tryz.prog G 115 [.c (.int .i64 s.n),.agg (encSo s),.agg [.int .i64 (s.n+1),.int .i64 s.conn,.int .i64 s.now]] [.c (.int .i64 s.n),.agg [.int .i64 (s.n+1),.int .i64 s.conn,.int .i64 s.now],.c (.bool true)]:=drawn_ok (G:=G) s.n s ⟨s.n+1,s.conn,s.now⟩ (by show s.n+1≠s.n;omega)
 have c2:=dnext_ok (G:=G) s.n h h0
 refine z0 [(2,{cs:=[(2,pc c2)]}),(3,{cs:=[(4,pc c)]})] [] ?_
 exact zr
theorem nonce5_ok (s:SoT) (h:s.n≤1073741824) (h0 : -1000000000000≤s.n):Pur Tryz.prog G 35 [.agg (encSo s)] [.c (.int .i64 s.n),.agg (encSo ⟨s.n+1,s.conn,s.now⟩),.c (.bool true)]:=by
 refine zp Tryz.func35 ?_
 refine zg [] [false] [decide (s.n>(1073741824:Int))=false,inR .i64 (s.n+1)] ⟨sO,i6⟩ ?_
 exact zr
theorem nonce5_no (s:SoT) (h:1073741824<s.n):Pur Tryz.prog G 35 [.agg (encSo s)] [.c (.int .i64 0),.agg (encSo s),.c (.bool false)]:=by
 refine zp Tryz.func35 ?_
 refine zg [] [true] [decide (s.n>(1073741824:Int))=true] (oN sO) ?_
 exact zr
theorem until_ok (now life:Int) (h0:0≤now) (h1:now≤1000000000) (h2:0<life) (h3:life≤1000000):Pur Tryz.prog G 93 [.c (.int .i64 now),.c (.int .i64 life)] [.c (.int .i64 (now+life))]:=by
 refine zp Tryz.func93 ?_
 have t1:decide (life≤0)=false:=by simp;omega
 have t2:decide (now<0)=false:=by simp;omega
 have t3:decide (now≥0)=true:=by simp;omega
 have t4:decide (life>1099511627776-now)=false:=by simp;omega
 refine zg [] [false,false] [decide (life≤(0:Int))=false,decide (now≥(0:Int))=true∧(bif decide (now<(0:Int)) then decide (life>(1099511627776:Int)) else false)=false→inR .i64 ((1099511627776:Int)-now),(bif bif decide (now<(0:Int)) then decide (life>(1099511627776:Int)) else false then true else bif decide (now≥(0:Int)) then decide (life>(1099511627776:Int)-now) else false)=false,inR .i64 (now+life)] ⟨aS,(fun _=>i6),sO,i6⟩ ?_
 exact zr
theorem until5_ok (now life:Int) (h0:0≤now) (h1:now≤1000000000) (h2:0<life) (h3:life≤1000000):Pur Tryz.prog G 38 [.c (.int .i64 now),.c (.int .i64 life)] [.c (.int .i64 (now+life))]:=by
 refine zp Tryz.func38 ?_
 have hm:(if 0>life then 0 else life)=life:=by rw [if_neg oM]
 have t5:decide ((if 0>life then 0 else life)>1099511627776-now)=false:=by rw [hm];simp;omega
 have t4:decide (life>1099511627776-now)=false:=by simp;omega
 refine zg [] [false] [inR .i64 (1099511627776-now),decide ((if (0:Int)>life then (0:Int) else life)>(1099511627776:Int)-now)=false,inR .i64 (now+if 0>life then 0 else life)] ⟨i6,sO,i6⟩ ?_
 exact zS [.c (.int .i64 (now+if (0:Int)>life then (0:Int) else life))] (by rw [hm])
theorem dlive_ok (a b:Int):Pur Tryz.prog G 110 [.c (.int .i64 a),.c (.int .i64 b)] [.c (.bool (decide (a<b)))]:=by
 refine zp Tryz.func110 ?_
 refine z0 [] [] ?_
 exact zr
theorem live5_ok (a b:Int):Pur Tryz.prog G 56 [.c (.int .i64 a),.c (.int .i64 b)] [.c (.bool (decide (a<b)))]:=by
 refine zp Tryz.func56 ?_
 refine z0 [] [] ?_
 exact zr
theorem bounds_ok (k:Int):Pur Tryz.prog G 111 [.c (.int .i64 k)] [.agg [.int .i64 (mostT k),.int .i64 (lifeT k)]]:=by
 refine zp Tryz.func111 ?_
 refine z0 [] [] ?_
 refine zc (k==(1:Int)) (fun h0 => ?_) (fun h0 => ?_)
 ·have g0:=eq_of_beq h0
  refine z0 [] [] ?_
  exact zS [.agg [.int .i64 (6:Int),.int .i64 (60:Int)]] (by simp [mostT,lifeT,h0];done)
 ·have g0:=ne_of_beq_false h0
  refine z0 [] [] ?_
  refine zc (k==(2:Int)) (fun h1 => ?_) (fun h1 => ?_)
  ·have g1:=eq_of_beq h1
   refine z0 [] [] ?_
   exact zS [.agg [.int .i64 (6:Int),.int .i64 (900:Int)]] (by simp [mostT,lifeT,h0,h1];done)
  ·have g1:=ne_of_beq_false h1
   refine z0 [] [] ?_
   refine zc (k==(3:Int)) (fun h2 => ?_) (fun h2 => ?_)
   ·have g2:=eq_of_beq h2
    refine z0 [] [] ?_
    exact zS [.agg [.int .i64 (6:Int),.int .i64 (120:Int)]] (by simp [mostT,lifeT,h0,h1,h2];done)
   ·have g2:=ne_of_beq_false h2
    refine z0 [] [] ?_
    refine zc (k==(4:Int)) (fun h3 => ?_) (fun h3 => ?_)
    ·have g3:=eq_of_beq h3
     refine z0 [] [] ?_
     exact zS [.agg [.int .i64 (6:Int),.int .i64 (40:Int)]] (by simp [mostT,lifeT,h0,h1,h2,h3];done)
    ·have g3:=ne_of_beq_false h3
     refine z0 [] [] ?_
     refine zc (k==(5:Int)) (fun h4 => ?_) (fun h4 => ?_)
     ·have g4:=eq_of_beq h4
      refine z0 [] [] ?_
      exact zS [.agg [.int .i64 (12:Int),.int .i64 (300:Int)]] (by simp [mostT,lifeT,h0,h1,h2,h3,h4];done)
     ·have g4:=ne_of_beq_false h4
      refine z0 [] [] ?_
      refine zc (k==(6:Int)) (fun h5 => ?_) (fun h5 => ?_)
      ·have g5:=eq_of_beq h5
       refine z0 [] [] ?_
       exact zS [.agg [.int .i64 (12:Int),.int .i64 (600:Int)]] (by simp [mostT,lifeT,h0,h1,h2,h3,h4,h5];done)
      ·have g5:=ne_of_beq_false h5
       refine z0 [] [] ?_
       exact zS [.agg [.int .i64 (0:Int),.int .i64 (0:Int)]] (by simp [mostT,lifeT,h0,h1,h2,h3,h4,h5];done)
theorem most_ok (k:Int):Pur Tryz.prog G 89 [.c (.int .i64 k)] [.c (.int .i64 (mostT k))]:=by
 refine zp Tryz.func89 ?_
 have c:=bounds_ok (G:=G) k
 refine z0 [(1,{cs:=[(1,pc c)]})] [] ?_
 exact zr
theorem life_ok (k:Int):Pur Tryz.prog G 94 [.c (.int .i64 k)] [.c (.int .i64 (lifeT k))]:=by
 refine zp Tryz.func94 ?_
 have c:=bounds_ok (G:=G) k
 refine z0 [(1,{cs:=[(1,pc c)]})] [] ?_
 exact zr
theorem live1_ok (now:Int) (r:RcT):FnB Tryz.prog G 109 [bxN now] [.agg (encRc r),.c (.ptr 0 0)] [.c (.bool (liveP now r))] [(0,bxN now)]:=by
 refine zf Tryz.func109 ?_
 have c:=dlive_ok (G:=G) now r.til
 refine z0 [(1,{cs:=[(3,pc c)]})] [] ?_
 exact zb []
theorem room1_ok (k:Int) (r:RcT):FnB Tryz.prog G 88 [bxN k] [.agg (encRc r),.c (.ptr 0 0)] [.c (.bool (roomP k r))] [(0,bxN k)]:=by
 refine zf Tryz.func88 ?_
 refine z0 [] [] ?_
 exact zb []
theorem put1_ok (q r:RcT):FnB Tryz.prog G 117 [.box 37 (encRc q)] [.agg (encRc r),.c (.ptr 0 0)] [.c (.bool (r.key==q.key))] [(0,.box 37 (encRc q))]:=by
 refine zf Tryz.func117 ?_
 refine z0 [] [] ?_
 exact zb []
structure ClT where
 (id:List UInt8) (secret:Int) (reds:List (List UInt8)) (scope:List UInt8)
def ClT.nil:ClT:=⟨[],0,[],[]⟩
def encCl (c:ClT):List Cell:=[.str c.id,.int .i64 c.secret,.sl 1 c.reds.length (strsF c.reds),.str c.scope]
theorem knows17_ok (c:ClT) (hl:c.reds.length<1000000000) (s:List UInt8):Pur Tryz.prog G 57 [.agg (encCl c),.c (.str s)] [.c (.bool (isIn c.reds s))]:=by
 refine zp Tryz.func57 ?_
 refine z0 [] [] ?_
 refine zl (fun (k:Nat)=>⟨[(1,.v (.c (.str s))),(2,.v (.c (.ptr 0 0))),(5,.v (.c (.int .i64 (k:Int))))],[(0,.box 56 (encCl c))],48⟩) (fun k=>k≤c.reds.length∧∀ i,i<k→(c.reds.getD i []==s)=false) (fun k=>c.reds.length-k) 0 ⟨Nat.zero_le _,fun _ h=>absurd h (Nat.not_lt_zero _)⟩ ?_
 intro k L ⟨hk,hall⟩ again
 rcases Nat.lt_or_ge k c.reds.length with hlt | hge
 ·cases hq:(c.reds.getD k []==s) with
  | true =>
   have hx:isIn c.reds s=true:=List.any_eq_true.2 ⟨c.reds.getD k [],strs_mem hlt,hq⟩
   rw [hx]
   refine zg [] [true,true] [decide ((k:Int)<(c.reds.length:Int))=true,(0:Int)≤(k:Int)∧(k:Int)<(c.reds.length:Int),(c.reds.getD k []==s)=true] ⟨sO,oM,(show (c.reds.getD k []==s)=true from aS)⟩ ?_
   exact zr
  | false =>
   have hall':=up1 hall hq
   refine zg [] [true,false] [decide ((k:Int)<(c.reds.length:Int))=true,(0:Int)≤(k:Int)∧(k:Int)<(c.reds.length:Int),(c.reds.getD k []==s)=false,inR .i64 ((k:Int)+1)] ⟨sO,oM,aS,i6⟩ ?_
   exact za [] (again _ (k+1) ⟨aS,aS⟩ oM)
 ·have hx:isIn c.reds s=false:=List.any_eq_false.2 fun x hx=>by
   obtain ⟨i,hi,rfl⟩:=List.getElem_of_mem hx
   have:=hall i oM
   simp only [List.getD,List.getElem?_eq_getElem hi,Option.getD_some] at this
   simp [this]
  rw [hx]
  refine zg [] [false] [decide ((k:Int)<(c.reds.length:Int))=false] (oN sO) ?_
  exact zr
theorem in16_nil (s:List UInt8):Pur Tryz.prog G 103 [.c .nilsl,.c (.str s)] [.c (.bool false)]:=by
 refine zp Tryz.func103 ?_
 refine z0 [] [] ?_
 refine Wp.unrK kR 1 (fun UL0 uUL0 => ?_)
 refine zg [] [false] [decide ((0:Int)<(0:Int))=false] rfl ?_
 exact zr
theorem has16_ok (s w:List UInt8) (hs:s.length<1000000000):Pur Tryz.prog G 80 [.c (.str s),.c (.str w)] [.c (.bool (scOk s&&isIn (wrd s) w))]:=by
 have c:=scParse16_ok (G:=G) s hs
 unfold scV at c
 refine zp Tryz.func80 ?_
 by_cases h:scErr (scL s)=0
 ·rw [if_pos h] at c
  have h1:scOk s=true:=by unfold scOk;rw [h];rfl
  have h2:wrd s=scL s:=if_pos h
  rw [h1,h2,Bool.true_and]
  have hlen:(scL s).length<1000000000000:=by
   unfold scErr at h
   split at h
   ·cases h
   ·omega
  have c2:=in16_ok (G:=G) (scL s) (scL s).length w rfl oM
  refine z0 [(1,{cs:=[(1,pc c)]}),(2,{cs:=[(5,pc c2)]})] [] ?_
  exact zr
 ·rw [if_neg h] at c
  have h1:scOk s=false:=by unfold scOk;simp [h]
  rw [h1,Bool.false_and]
  generalize scErr (scL s)=e at c h
  have h3:(e==0)=false:=by simp [h]
  refine z0 [(1,{cs:=[(1,pc c)]}),(2,{cs:=[(5,pc (in16_nil w))]})] [] ?_
  exact zS [.c (.bool (bif e==(0:Int) then false else false))] (by simp;done)
theorem in_contains (l:List (List UInt8)) (w:List UInt8):isIn l w=l.contains w:=by
 unfold isIn
 rw [List.any_beq']
theorem within16_ok (s t:List UInt8) (hs:s.length<1000000000) (ht:t.length<1000000000):Pur Tryz.prog G 60 [.c (.str s),.c (.str t)] [.c (.bool (wiT s t))]:=by
 have c:=scParse16_ok (G:=G) s hs
 have d:=scParse16_ok (G:=G) t ht
 unfold scV at c d
 refine zp Tryz.func60 ?_
 by_cases h:scErr (scL s)=0
 ·rw [if_pos h] at c
  have h1:scOk s=true:=by unfold scOk;rw [h];rfl
  have h2:wrd s=scL s:=if_pos h
  by_cases k:scErr (scL t)=0
  ·rw [if_pos k] at d
   have k1:scOk t=true:=by unfold scOk;rw [k];rfl
   have hlen:(scL s).length<1000000000000:=by
    unfold scErr at h
    split at h
    ·cases h
    ·omega
   have e:=fun w=>has16_ok (G:=G) t w ht
   have hw:wiT s t=(scL s).all fun w=>isIn (wrd t) w:=by
    unfold wiT
    rw [h1,k1,h2,Bool.true_and,Bool.true_and]
    exact congrArg (scL s).all (funext fun w=>(in_contains _ _).symm)
   rw [hw]
   simp only [k1,Bool.true_and] at e
   generalize scL s=l at c hlen ⊢
   clear hw h1 h2 k1
   generalize wrd t=B at e ⊢
   refine zg [(1,{cs:=[(1,pc c)]}),(2,{cs:=[(1,pc d)]})] [false] [(bif (0:Int) != 0 then true else (0:Int) != 0)=false] rfl ?_
   refine zl (fun (x:Nat)=>⟨[(1,.v (.c (.str t))),(5,.v (.c (.sl 1 l.length (strsF l)))),(9,.v (.c (.int .i64 (x:Int))))],[],352⟩) (fun x=>x≤l.length∧∀ i,i<x→isIn B (l.getD i [])=true) (fun x=>l.length-x) 0 ⟨Nat.zero_le _,fun _ h=>absurd h (Nat.not_lt_zero _)⟩ ?_
   intro x L ⟨hx,hall⟩ again
   rcases Nat.lt_or_ge x l.length with hlt | hge
   ·have e1:=e (l.getD x [])
    cases hq:isIn B (l.getD x []) with
    | true =>
     rw [hq] at e1
     have hall':∀ i,i<x+1→isIn B (l.getD i [])=true:=fun i hi=>by
      rcases Nat.lt_or_ge i x with h | h
      ·exact hall i h
      ·rw [show i=x by omega];exact hq
     clear hall hq
     refine zg [(8,{cs:=[(5,pc e1)]})] [true,false] [decide ((x:Int)<(l.length:Int))=true,(0:Int)≤(x:Int)∧(x:Int)<(l.length:Int),(!true)=false,inR .i64 ((x:Int)+1)] ⟨sO,oM,rfl,i6⟩ ?_
     exact za [] (again _ (x+1) ⟨aS,aS⟩ oM)
    | false =>
     rw [hq] at e1
     have:(l.all fun w=>isIn B w)=false:=List.all_eq_false.2 ⟨l.getD x [],strs_mem hlt,by rw [hq];decide⟩
     rw [this]
     clear hall hq this
     refine zg [(8,{cs:=[(5,pc e1)]})] [true,true] [decide ((x:Int)<(l.length:Int))=true,(0:Int)≤(x:Int)∧(x:Int)<(l.length:Int),(!false)=true] ⟨sO,oM,rfl⟩ ?_
     exact zr
   ·have:(l.all fun w=>isIn B w)=true:=List.all_eq_true.2 fun w hw=>by
     obtain ⟨i,hi,rfl⟩:=List.getElem_of_mem hw
     have:=hall i oM
     simpa [List.getD,hi] using this
    rw [this]
    clear this hall
    refine zg [] [false] [decide ((x:Int)<(l.length:Int))=false] (oN sO) ?_
    exact zr
  ·rw [if_neg k] at d
   have k1:scOk t=false:=by unfold scOk;simp [k]
   have hw:wiT s t=false:=by unfold wiT;rw [k1];simp
   rw [hw]
   generalize scErr (scL t)=e at d k
   have h3:(bif (0:Int) != 0 then true else e != 0)=true:=by simp [k]
   refine zg [(1,{cs:=[(1,pc c)]}),(2,{cs:=[(1,pc d)]})] [true] [(bif (0:Int) != (0:Int) then true else e != (0:Int))=true] (oN aS) ?_
   exact zr
 ·rw [if_neg h] at c
  have h1:scOk s=false:=by unfold scOk;simp [h]
  have hw:wiT s t=false:=by unfold wiT;rw [h1];simp
  rw [hw]
  generalize scErr (scL s)=e at c h
  by_cases k:scErr (scL t)=0
  ·rw [if_pos k] at d
   have h3:(bif e != 0 then true else (0:Int) != 0)=true:=by simp [h]
   refine zg [(1,{cs:=[(1,pc c)]}),(2,{cs:=[(1,pc d)]})] [true] [(bif e != (0:Int) then true else (0:Int) != (0:Int))=true] (oN aS) ?_
   exact zr
  ·rw [if_neg k] at d
   generalize scErr (scL t)=e2 at d k
   have h3:(bif e != 0 then true else e2 != 0)=true:=by simp [h]
   refine zg [(1,{cs:=[(1,pc c)]}),(2,{cs:=[(1,pc d)]})] [true] [(bif e != (0:Int) then true else e2 != (0:Int))=true] (oN aS) ?_
   exact zr
structure FitW (w:WT):Prop where
 redir:w.redir.length<1000000000
 scope:w.scope.length<1000000000
 state:w.state.length<1000000000
 nonce:w.nonce.length<1000000000
 chal:w.chal.length<1000000000
structure FitC (c:ClT):Prop where
 reds:c.reds.length<1000000000
 scope:c.scope.length<1000000000
def chkT (c:ClT) (w:WT):Int:=bif !isIn c.reds w.redir then 10 else bif !(w.ty==[99,111,100,101]) then 11 else bif (bif bif bif !(w.meth==[83,50,53,54]) then true else !isHash w.chal then true else !wdT w.state then true else !wdT w.nonce) then 10 else bif !wiT w.scope c.scope then 12 else 0
theorem check20_ok (c:ClT) (w:WT) (hc:FitC c) (hw:FitW w):Pur Tryz.prog G 34 [.agg (encCl c),.agg (encW w)] [.c (.int .i64 (chkT c w))]:=by
 have c1:=knows17_ok (G:=G) c hc.reds w.redir
 have c2:=may18_ok (G:=G) w.chal (by have:=hw.chal;omega)
 have c3:=word6_ok (G:=G) w.state (by have:=hw.state;omega)
 have c4:=word6_ok (G:=G) w.nonce (by have:=hw.nonce;omega)
 have c5:=within16_ok (G:=G) w.scope c.scope hw.scope hc.scope
 refine zp Tryz.func34 ?_
 unfold chkT
 refine z0 [(1,{cs:=[(3,pc c1)]})] [] ?_
 refine zc (!isIn c.reds w.redir) (fun h0 => ?_) (fun h0 => ?_)
 ·have g0:=h0
  simp at g0
  refine z0 [] [] ?_
  exact zS [.c (.int .i64 (10:Int))] (by simp only [h0,cond_true,cond_false])
 ·have g0:=h0
  simp at g0
  refine z0 [] [] ?_
  refine zc (!w.ty==[(99:UInt8),111,100,101]) (fun h1 => ?_) (fun h1 => ?_)
  ·have g1:=h1
   simp at g1
   refine z0 [] [] ?_
   exact zS [.c (.int .i64 (11:Int))] (by simp only [h0,h1,cond_true,cond_false])
  ·have g1:=h1
   simp at g1
   refine z0 [(5,{cs:=[(6,pc c2),(12,pc c3),(18,pc c4)]})] [] ?_
   refine zc (bif bif bif !w.meth==[(83:UInt8),50,53,54] then true else !isHash w.chal then true else !wdT w.state then true else !wdT w.nonce) (fun h2 => ?_) (fun h2 => ?_)
   ·have g2:=h2
    simp at g2
    refine z0 [] [] ?_
    exact zS [.c (.int .i64 (10:Int))] (by simp only [h0,h1,h2,cond_true,cond_false])
   ·have g2:=h2
    simp at g2
    refine z0 [(7,{cs:=[(4,pc c5)]})] [] ?_
    refine zc (!wiT w.scope c.scope) (fun h3 => ?_) (fun h3 => ?_)
    ·have g3:=h3
     simp at g3
     refine z0 [] [] ?_
     exact zS [.c (.int .i64 (12:Int))] (by simp only [h0,h1,h2,h3,cond_true,cond_false])
    ·have g3:=h3
     simp at g3
     refine z0 [] [] ?_
     exact zS [.c (.int .i64 (0:Int))] (by simp only [h0,h1,h2,h3,cond_true,cond_false])
def encHN (k:Int):List Cell:=[.int .i64 3,.int .i64 0,.str [],.sl 4 1 (fun _ j=>nthD (encN k) j)]
theorem kids3_ok:Pur Tryz.prog G 119 [.c (.int .i64 3)] [.c (.int .i64 1)]:=by
 refine zp Tryz.func119 ?_
 refine zg [] [false,false,true,true] [((3:Int)==(1:Int))=false,((3:Int)==(2:Int))=false,((3:Int)==(3:Int))=true,((3:Int)==(3:Int))=true] ⟨rfl,rfl,rfl,rfl⟩ ?_
 exact zr
theorem walkN2_ok (k:Int) (h0:0≤k) (h1:k≤1073741824):Pur Tryz.prog G 104 [.agg (encN k),.c (.int .i64 2),.c (.int .i64 63)] [.c (.int .i64 62)]:=by
 refine zp Tryz.func104 ?_
 have a1:decide (k<0)=false:=by simp;omega
 have a2:decide (k>1073741824)=false:=by simp;omega
 refine zg [(1,{cs:=[(9,pc kids2_ok)]})] [false] [(bif bif bif bif bif bif bif decide ((63:Int)<(1:Int)) then true else decide ((2:Int)>(16:Int)) then true else (0:Int) != (0:Int) then true else bif (2:Int) != (1:Int) then !([]:List UInt8)==[] else false then true else decide ((↑([]:List UInt8).length:Int)>(1024:Int)) then true else bif (2:Int) != (2:Int) then k != (0:Int) else false then true else decide (k<(0:Int)) then true else decide (k>(1073741824:Int)))=false,inR .i64 (63-1)] ⟨sO,i6⟩ ?_
 refine Wp.unrK kR 2 (fun UL0 uUL0 => ?_)
 refine zg [] [false] [(bif decide ((0:Int)<(0:Int)) then decide ((63:Int)-(1:Int)≥(0:Int)) else false)=false] rfl ?_
 exact zr
theorem walkH_ok (k:Int) (h0:0≤k) (h1:k≤1073741824):Pur Tryz.prog G 104 [.agg (encHN k),.c (.int .i64 1),.c (.int .i64 64)] [.c (.int .i64 62)]:=by
 refine zp Tryz.func104 ?_
 have c:=walkN2_ok (G:=G) k h0 h1
 refine zg [(1,{cs:=[(9,pc kids3_ok)]})] [false] [(bif bif bif bif bif bif bif decide ((64:Int)<(1:Int)) then true else decide ((1:Int)>(16:Int)) then true else (1:Int) != (↑(1:Nat):Int) then true else bif (3:Int) != (1:Int) then !([]:List UInt8)==[] else false then true else decide ((↑([]:List UInt8).length:Int)>(1024:Int)) then true else bif (3:Int) != (2:Int) then (0:Int) != (0:Int) else false then true else decide ((0:Int)<(0:Int)) then true else decide ((0:Int)>(1073741824:Int)))=false,inR .i64 (64-1)] ⟨rfl,i6⟩ ?_
 refine Wp.unrK kR 2 (fun UL0 uUL0 => ?_)
 refine zg [(7,{cs:=[(8,pc c)]})] [true] [(bif decide ((0:Int)<(↑(1:Nat):Int)) then decide ((64:Int)-(1:Int)≥(0:Int)) else false)=true,(0:Int)≤(0:Int)∧(0:Int)<(↑(1:Nat):Int),inR .i64 (1+1),inR .i64 (0+1)] ⟨rfl,oM,i6,i6⟩ ?_
 refine Wp.lpK kR (uUL0 1 _ ?_)
 refine zg [] [false] [(bif decide ((0:Int)+(1:Int)<(↑(1:Nat):Int)) then decide ((62:Int)≥(0:Int)) else false)=false] rfl ?_
 exact zr
theorem MayH_ok (k:Int) (h0:0≤k) (h1:k≤1073741824):Pur Tryz.prog G 81 [.agg (encHN k)] [.c (.bool true)]:=by
 refine zp Tryz.func81 ?_
 have c:=walkH_ok (G:=G) k h0 h1
 refine z0 [(1,{cs:=[(1,pc c)]})] [] ?_
 exact zr
def hashB (k:Int):List UInt8:=(((((([3]:List UInt8)++[2])++[byteN k 0])++[byteN k 1])++[byteN k 2])++[byteN k 3])
theorem putN1_ok (k:Int):FnB Tryz.prog G 82 [.row 5 1 1 (bytesF [3])] [.c (.row 1 0 0 1),.agg (encN k)] [.c (.row 1 1 0 6)] [(1,.row 5 1 6 (bytesF (hashB k)))]:=by
 refine zf Tryz.func82 ?_
 have e1:BlkEqv (.row 5 1 2 (catF 1 (bytesF [3]) (fun i j=>nthD [.int .u8 (IntKind.u8.wrap 2)] ((0+i)*1+j)))) (.row 5 1 2 (bytesF ([3]++[2]))):=bytes_app [3] [2] rfl
 have c:FnB Tryz.prog G 105 [.row 5 1 2 (bytesF ([3]++[2]))] [.c (.row 1 0 0 2),.c (.int .i64 k),.c (.int .i64 4)] [.c (.row 1 1 0 6)] [(1,.row 5 1 6 (bytesF (hashB k)))]:=num_ok 2 ([3]++[2]) rfl dC k
 refine zg [(1,{bs:=[(5,.row 5 1 2 (bytesF ([3]++[2])))]}),(6,{cs:=[(3,cb [113] c)]})] [false,true] [2≤140737488355328,BlkEqv (.row 5 (1:Nat) (2:Nat) (catF (1:Nat) (bytesF [(3:UInt8)]) fun i j=>nthD [.int .u8 (IntKind.u8.wrap (2:Int))] (((0:Nat)+i)*(1:Nat)+j))) (.row 5 (1:Nat) (2:Nat) (bytesF ([(3:UInt8)]++[(2:UInt8)]))),1≤1,0+1≤1,((2:Int)==(1:Int))=false,((2:Int)==(2:Int))=true] ⟨oM,aS,oM,oM,rfl,rfl⟩ ?_
 refine Wp.unrK kR 2 (fun UL0 uUL0 => ?_)
 refine zg [(1,{bs:=[(5,.row 5 1 2 (bytesF ([3]++[2])))]})] [false] [decide ((0:Int)<(0:Int))=false] rfl ?_
 exact zb [289]
theorem putH_ok (k:Int):FnB Tryz.prog G 82 [] [.c .nilsl,.agg (encHN k)] [.c (.row 1 0 0 6)] [(0,.row 5 1 6 (bytesF (hashB k)))]:=by
 refine zf Tryz.func82 ?_
 have e1:BlkEqv (.row 5 1 1 (catF 0 (fun _ _ => .nilif) (fun i j=>nthD [.int .u8 (IntKind.u8.wrap 3)] ((0+i)*1+j)))) (.row 5 1 1 (bytesF [3])):=by
  refine BlkEqv.row_ext rfl fun i hi j hj => ?_
  obtain ⟨rfl,rfl⟩:i=0∧j=0:=by omega
  rfl
 have c:=putN1_ok (G:=G) k
 refine zg [(1,{bs:=[(5,.row 5 1 1 (bytesF [3]))]})] [false,false] [1≤140737488355328,BlkEqv (.row 5 (1:Nat) (1:Nat) (catF (0:Nat) (fun (x x_1:Nat) => .nilif) fun i j=>nthD [.int .u8 (IntKind.u8.wrap (3:Int))] (((0:Nat)+i)*(1:Nat)+j))) (.row 5 (1:Nat) (1:Nat) (bytesF [(3:UInt8)])),0+1≤1,((3:Int)==(1:Int))=false,((3:Int)==(2:Int))=false] ⟨oM,aS,oM,rfl,rfl⟩ ?_
 refine Wp.unrK kR 2 (fun UL0 uUL0 => ?_)
 refine zg [(1,{bs:=[(5,.row 5 1 1 (bytesF [3]))]}),(10,{cs:=[(6,cb [112] c)]})] [true] [decide ((0:Int)<(↑(1:Nat):Int))=true,(0:Int)≤(0:Int)∧(0:Int)<(↑(1:Nat):Int),inR .i64 (0+1)] ⟨rfl,oM,i6⟩ ?_
 refine Wp.lpK kR (uUL0 1 _ ?_)
 refine zg [(1,{bs:=[(5,.row 5 1 1 (bytesF [3]))]})] [false] [decide ((0:Int)+(1:Int)<(↑(1:Nat):Int))=false] rfl ?_
 exact zb [432]
theorem putH_ok2 (k:Int) (h0:0≤k) (h1:k≤1073741824):FnB Tryz.prog G 62 [] [.agg (encHN k)] [.c (.row 1 0 0 6)] [(0,.row 5 1 6 (bytesF (hashB k)))]:=by
 refine zf Tryz.func62 ?_
 have c1:=MayH_ok (G:=G) k h0 h1
 have c2:=putH_ok (G:=G) k
 refine zg [(1,{cs:=[(1,pc c1)]}),(3,{cs:=[(1,cb [] c2)]})] [false] [(!true)=false] rfl ?_
 exact zb [96]
def chalT (k:Int):List UInt8:=[126]++enc8 (hashB k)++[126]
theorem hashText_ok (k:Int) (h0:0≤k) (h1:k≤1073741824):Pur Tryz.prog G 44 [.agg (encHN k)] [.c (.str (chalT k))]:=by
 refine zp Tryz.func44 ?_
 have c1:=putH_ok2 (G:=G) k h0 h1
 have c2:Pur Tryz.prog G 63 [.c (.sl 1 6 (bytesF (hashB k)))] [.c (.str (enc8 (hashB k)))]:=enc8_ok (hashB k) (show 6≤30000000000000 by omega)
 refine zg [(1,{cs:=[(1,cb [] c1)]}),(4,{cs:=[(1,lc [48] [.row 5 1 6 (bytesF (hashB k))] [.c (.row 1 0 0 6)] c2 kR kR kR (show 0+6≤6 from oM))]})] [false] [((↑(6:Nat):Int)==(0:Int))=false,9≤9223372036854775807,10≤9223372036854775807] ⟨rfl,oM,(show (10:Nat)≤(9223372036854775807:Nat) from oM)⟩ ?_
 exact zS [.c (.str [(126:UInt8),sgn6 (v3 (hashB k) ((3:Nat)*0) (3:Nat)) (0),sgn6 (v3 (hashB k) ((3:Nat)*0) (3:Nat)) (1),sgn6 (v3 (hashB k) ((3:Nat)*0) (3:Nat)) (2),sgn6 (v3 (hashB k) ((3:Nat)*0) (3:Nat)) (3),sgn6 (v3 (hashB k) ((3:Nat)*1) (3:Nat)) (0),sgn6 (v3 (hashB k) ((3:Nat)*1) (3:Nat)) (1),sgn6 (v3 (hashB k) ((3:Nat)*1) (3:Nat)) (2),sgn6 (v3 (hashB k) ((3:Nat)*1) (3:Nat)) (3),(126:UInt8)])] kR
theorem T3_ok (k:Int):Pur Tryz.prog G 51 [.c (.int .i64 3),.c (.sl 4 1 (fun _ j=>nthD (encN k) j))] [.agg (encHN k)]:=by
 refine zp Tryz.func51 ?_
 refine z0 [] [] ?_
 exact zr
theorem number9_ok (s:List UInt8) {k:Int} (hs:s.length≤30000000000000) (h:readT s=some (.no k.toNat)) (h0:0≤k):Pur Tryz.prog G 50 [.c (.str s)] [.c (.int .i64 k),.c (.bool true)]:=by
 refine zp Tryz.func50 ?_
 rcases read9_ok (G:=G) s hs with ⟨t,ht,c⟩ | ⟨ht,c⟩
 ·rw [h] at ht
  simp only [Option.some.injEq] at ht
  subst ht
  have c:Pur Tryz.prog G 66 [.c (.str s)] [.agg [.int .i64 2,.int .i64 (k.toNat:Int),.str [],.sl 4 0 (fun _ _ => .nilif)],.c (.bool true)]:=c
  rw [show ((k.toNat:Nat):Int)=k by omega] at c
  refine zg [(1,{cs:=[(1,pc c)]})] [false] [(bif !true then true else (2:Int) != (2:Int))=false] rfl ?_
  exact zr
 ·rw [h] at ht;cases ht
theorem chal_ok (s:List UInt8) {k:Int} (hs:s.length≤30000000000000) (h:readT s=some (.no k.toNat)) (h0:0≤k) (h1:k≤1073741824):Pur Tryz.prog G 25 [.c (.str s)] [.c (.str (chalT k)),.c (.bool true)]:=by
 refine zp Tryz.func25 ?_
 have c1:=number9_ok (G:=G) s hs h h0
 have c2:=N_ok (G:=G) k
 have c3:=T3_ok (G:=G) k
 have c4:=hashText_ok (G:=G) k h0 h1
 have e1:EqvD (.c (.sl 4 1 (fun i j=>nthD [.int .i64 2,.int .i64 k,.str [],.nilsl] (i*4+j)))) (.c (.sl 4 1 (fun _ j=>nthD (encN k) j))):=EqvD.sl rfl (fun i hi j hj=>by
  obtain rfl:i=0:=by omega
  rw [Nat.zero_mul,Nat.zero_add];rfl)
 refine zg [(4,{cs:=[(1,pc c2),(3,pc c3),(4,pc c4)],fm:=[(2,.c (.sl 4 1 (fun _ j=>nthD (encN k) j)))]}),(1,{cs:=[(1,pc c1)]})] [false] [(!true)=false,EqvI (.c (.sl 4 1 fun i j=>nthD [.int .i64 2,.int .i64 k,.str [],.nilsl] (i*4+j))) (.c (.sl 4 1 fun (x j:Nat)=>nthD (encN k) j)),EqvD (.c (.sl 4 1 fun i j=>nthD [.int .i64 2,.int .i64 k,.str [],.nilsl] (i*4+j))) (.c (.sl 4 1 fun (x j:Nat)=>nthD (encN k) j))] ⟨rfl,fun _ _=>trivial,(show EqvD (.c (.sl (4:Nat) (1:Nat) fun i j=>nthD [.int .i64 (2:Int),.int .i64 k,.str [],.nilsl] (i*(4:Nat)+j))) (.c (.sl (4:Nat) (1:Nat) fun (x j:Nat)=>nthD (encN k) j)) from aS)⟩ ?_
 exact zr
end Go.Proofs.Tw
end
section
namespace Go.Sv
def rowL (f:Nat→Cell):Nat→Nat→List Cell
 | _,0=>[]
 | j,n+1=>f j::rowL f (j+1) n
def tabL (f:Nat→Nat→Cell) (sz:Nat):Nat→Nat→List Cell
 | _,0=>[]
 | i,n+1=>appC (rowL (f i) 0 sz) (tabL f sz (i+1) n)
where appC:List Cell→List Cell→List Cell
 | [],r=>r
 | x::l,r=>x::appC l r
theorem appC_eq (l r:List Cell):tabL.appC l r=l++r:=by
 induction l with
 | nil=>rfl
 | cons x l ih=>simp [tabL.appC,ih]
theorem rowL_len (f:Nat→Cell):∀ (n j:Nat),(rowL f j n).length=n
 | 0,_=>rfl
 | n+1,j=>by simp [rowL,rowL_len f n]
theorem rowL_get (f:Nat→Cell):∀ (n j k:Nat),k<n→nthD (rowL f j n) k=f (j+k)
 | n+1,j,0,_=>rfl
 | n+1,j,k+1,h=>by
  show nthD (rowL f (j+1) n) k=_
  rw [rowL_get f n (j+1) k oM,show j+1+k=j+(k+1) by omega]
theorem tabL_get (f:Nat→Nat→Cell) (sz:Nat):∀ (n i a j:Nat),a<n→j<sz→nthD (tabL f sz i n) (a*sz+j)=f (i+a) j
 | n+1,i,0,j,_,hj=>by
  rw [Nat.zero_mul,Nat.zero_add,tabL,appC_eq,nthD_app_lt (by rw [rowL_len];exact hj),rowL_get _ _ _ _ hj,Nat.zero_add,Nat.add_zero]
 | n+1,i,a+1,j,ha,hj=>by
  have e:(a+1)*sz+j=sz+(a*sz+j):=by rw [Nat.succ_mul];omega
  rw [tabL,appC_eq,nthD_app_ge (by rw [rowL_len,e];omega),rowL_len,e,Nat.add_sub_cancel_left,tabL_get f sz n (i+1) a j oM hj,show i+1+a=i+(a+1) by omega]
theorem lit_D {sz n n':Nat} {l:List Cell} {f:Nat→Nat→Cell} (h:(tabL f sz 0 n,n)=(l,n')):EqvD (.c (.sl sz n (fun i j=>nthD l (i*sz+j)))) (.c (.sl sz n' f)):=by
 obtain ⟨h1,rfl⟩:=Prod.mk.inj h
 subst h1
 exact EqvD.sl rfl fun i hi j hj=>by rw [tabL_get f sz n 0 i j hi hj,Nat.zero_add]
theorem nilsl_D {sz:Nat} {f:Nat→Nat→Cell}:EqvD (.c .nilsl) (.c (.sl sz 0 f)):=fun D ρ u h=>⟨none,0,h,Nat.le_refl _,Nat.zero_le _,.inl ⟨rfl,rfl⟩⟩
theorem agg_D {a b:List Cell} {x y:Cell} (h:EqvD (.c x) (.c y)):EqvD (.agg (a++x::b)) (.agg (a++y::b)):=by
 rintro D ρ u ⟨us,e,hs,hd⟩
 refine ⟨us,e,by rw [hs];simp,fun j z hj => ?_⟩
 rcases Nat.lt_trichotomy j a.length with h1 | h1 | h1
 ·refine hd j z ?_
  rw [List.getElem?_append_left h1] at hj ⊢
  exact hj
 ·subst h1
  rw [List.getElem?_append_right (Nat.le_refl _),Nat.sub_self] at hj
  simp only [List.getElem?_cons_zero,Option.some.injEq] at hj
  subst hj
  obtain ⟨w,hw,hx⟩:=hd a.length x (by rw [List.getElem?_append_right (Nat.le_refl _),Nat.sub_self];rfl)
  exact ⟨w,hw,h D ρ w hx⟩
 ·refine hd j z ?_
  rw [List.getElem?_append_right oM] at hj ⊢
  obtain ⟨k,hk⟩:∃ k,j-a.length=k+1:=⟨j-a.length-1,by omega⟩
  rw [hk] at hj ⊢
  exact hj
end Go.Sv
end
section
open Go Go.Sv Go.RowKit
namespace Go.Proofs.Tw
attribute [local irreducible] Wp FinQ resV Ent Pur Go.Sv.Fn Sat0
set_option maxRecDepth 100000
set_option maxHeartbeats 4000000
variable {G:Nat→Option (List Cell)}
structure UsT where
 (name:List UInt8) (pass:Int)
def UsT.nil:UsT:=⟨[],0⟩
def encUs (u:UsT):List Cell:=[.str u.name,.int .i64 u.pass]
structure StT where
 (name:List UInt8) (key:Int) (cls:List ClT) (usr:List UsT) (recs:List RcT)
def clS (l:List ClT):Cell := .sl 4 l.length (rowF encCl .nil l)
def usS (l:List UsT):Cell := .sl 2 l.length (rowF encUs .nil l)
def encSt (s:StT):List Cell:=[.str s.name,.int .i64 s.key,clS s.cls,usS s.usr,rcS s.recs]
def baseC:List ClT:=[⟨[99,49],4,[[104,116,116,112,115,58,47,47,99,49,47,99,98],[104,116,116,112,115,58,47,47,99,49,47,116,119,111]],[111,112,101,110,105,100,32,112,114,111,102,105,108,101]⟩,⟨[99,50],5,[[104,116,116,112,115,58,47,47,99,50,47,99,98]],[97,32,111,112,101,110,105,100]⟩,⟨[112,117,98],0,[[104,116,116,112,115,58,47,47,112,117,98,47,99,98]],[111,112,101,110,105,100]⟩]
def baseU:List UsT:=[⟨[97,108,105,99,101],10⟩,⟨[98,111,98],11⟩]
def baseT:StT:=⟨[97,115],1,baseC,baseU,[]⟩
def src0:SoT:=⟨100,1,0⟩
theorem within20_ok (a n:Int) (hn:0<n) (hm:n≤9223372036854775807):Pur Tryz.prog G 26 [.c (.int .i64 a),.c (.int .i64 n)] [.c (.int .i64 (withT a n))]:=by
 refine zp Tryz.func26 ?_
 have h1:=tmod_lo a n hn
 refine zg [] [] [n≠(0:Int)] (oN oM) ?_
 refine zc (decide (a.tmod n<(0:Int))) (fun h0 => ?_) (fun h0 => ?_)
 ·have g0:=of_decide_eq_true h0
  refine zg [] [] [inR .i64 (a.tmod n+n)] (i6) ?_
  exact zS [.c (.int .i64 (a.tmod n+n))] (by simp [withT, *];done)
 ·have g0:=of_decide_eq_false h0
  refine z0 [] [] ?_
  exact zS [.c (.int .i64 (a.tmod n))] (by simp [withT, *];done)
theorem with3 (a:Int):withT a 3=0∨withT a 3=1∨withT a 3=2:=by have:=withT_rng a 3 dC;omega
def verT (n:Int):List UInt8:=keyT (30+withT n 3)
theorem ver_ok (n:Int):Pur Tryz.prog G 12 [.c (.int .i64 n)] [.c (.str (verT n))]:=by
 refine zp Tryz.func12 ?_
 have c1:=within20_ok (G:=G) n 3 dC dC
 have h:=withT_rng n 3 dC
 unfold verT
 generalize withT n 3=x at c1 h ⊢
 have c2:=Key_ok (G:=G) (30+x) oM oM
 refine zg [(1,{cs:=[(1,pc c1),(3,pc c2)]})] [] [inR .i64 (30+x)] (i6) ?_
 exact zr
theorem key_len (k:Int):(keyT k).length=9:=kR
theorem chalT_len (k:Int):(chalT k).length=10:=kR
theorem readVer (n:Int):readT (verT n)=some (.no (30+withT n 3).toNat):=by
 unfold verT
 rcases with3 n with h | h | h<;>rw [h]<;>kernel_rfl
def rightR:List (List UInt8):=[[104,116,116,112,115,58,47,47,99,49,47,99,98],[104,116,116,112,115,58,47,47,99,50,47,99,98],[104,116,116,112,115,58,47,47,112,117,98,47,99,98]]
def rightT (n:Int):WT:=⟨[99,111,100,101],rightR.getD (withT (n-1) 3).toNat [],[111,112,101,110,105,100],[115]++keyT n,[110],chalT (30+withT n 3),[83,50,53,54]⟩
theorem right_ok (n:Int) (h0:0≤n) (h1:n≤1073741824):Pur Tryz.prog G 10 [.c (.int .i64 n)] [.agg (encW (rightT n))]:=by
 refine zp Tryz.func10 ?_
 have c1:=ver_ok (G:=G) n
 have hv:=withT_rng n 3 dC
 have c2:=chal_ok (G:=G) (verT n) (k:=30+withT n 3) (by show (keyT (30+withT n 3)).length≤30000000000000;rw [key_len];decide) (readVer n) oM oM
 have c3:=within20_ok (G:=G) (n-1) 3 dC dC
 have c4:=Key_ok (G:=G) n h0 h1
 have hw:=withT_rng (n-1) 3 dC
 have hl:=key_len n
 unfold rightT
 generalize verT n=v at c1 c2
 generalize chalT (30+withT n 3)=ch at c2 ⊢
 generalize withT (n-1) 3=x at c3 hw ⊢
 generalize keyT n=kn at c4 hl ⊢
 refine zg [(2,{cs:=[(3,pc c3),(7,pc c4)],fm:=[(0,.c (.sl 1 3 (strsF rightR)))]}),(1,{cs:=[(1,pc c1),(2,pc c2)]})] [] [EqvI (.c (.sl 1 (3:Nat) fun i j=>nthD [.str [(104:UInt8),116,116,112,115,58,47,47,99,49,47,99,98],.str [(104:UInt8),116,116,112,115,58,47,47,99,50,47,99,98],.str [(104:UInt8),116,116,112,115,58,47,47,112,117,98,47,99,98]] (i*(1:Nat)+j))) (.c (.sl 1 (3:Nat) (strsF rightR))),EqvD (.c (.sl 1 (3:Nat) fun i j=>nthD [.str [(104:UInt8),116,116,112,115,58,47,47,99,49,47,99,98],.str [(104:UInt8),116,116,112,115,58,47,47,99,50,47,99,98],.str [(104:UInt8),116,116,112,115,58,47,47,112,117,98,47,99,98]] (i*(1:Nat)+j))) (.c (.sl 1 (3:Nat) (strsF rightR))),inR .i64 (n-1),(0:Int)≤x∧x<(↑(3:Nat):Int),1+kn.length≤9223372036854775807] ⟨fun _ _=>trivial,lit_D kR,i6,oM,(show (1:Nat)+kn.length≤(9223372036854775807:Nat) from oM)⟩ ?_
 exact zr
theorem base_ok:Pur Tryz.prog G 24 [] [.agg (encSt baseT),.agg (encSo src0)]:=by
 refine zp Tryz.func24 ?_
 have e1:EqvD (.agg [.str [97,115],.int .i64 1,clS baseC,usS baseU,.nilsl]) (.agg (encSt baseT)):=agg_D (a:=[.str [97,115],.int .i64 1,clS baseC,usS baseU]) (b:=[]) nilsl_D
 refine zg [(1,{fm:=[(0,.c (.sl 1 2 (strsF (baseC.getD 0 .nil).reds))),(2,.c (.sl 1 1 (strsF (baseC.getD 1 .nil).reds))),(4,.c (.sl 1 1 (strsF (baseC.getD 2 .nil).reds))),(6,.c (clS baseC)),(9,.c (usS baseU)),(10,.agg (encSt baseT))]})] [] [EqvI (.c (.sl 1 (2:Nat) fun i j=>nthD [.str [(104:UInt8),116,116,112,115,58,47,47,99,49,47,99,98],.str [(104:UInt8),116,116,112,115,58,47,47,99,49,47,116,119,111]] (i*(1:Nat)+j))) (.c (.sl 1 (2:Nat) (strsF (baseC.getD (0:Nat) .nil).reds))),EqvD (.c (.sl 1 (2:Nat) fun i j=>nthD [.str [(104:UInt8),116,116,112,115,58,47,47,99,49,47,99,98],.str [(104:UInt8),116,116,112,115,58,47,47,99,49,47,116,119,111]] (i*(1:Nat)+j))) (.c (.sl 1 (2:Nat) (strsF (baseC.getD (0:Nat) .nil).reds))),EqvI (.c (.sl 1 (1:Nat) fun i j=>nthD [.str [(104:UInt8),116,116,112,115,58,47,47,99,50,47,99,98]] (i*(1:Nat)+j))) (.c (.sl 1 (1:Nat) (strsF (baseC.getD (1:Nat) .nil).reds))),EqvD (.c (.sl 1 (1:Nat) fun i j=>nthD [.str [(104:UInt8),116,116,112,115,58,47,47,99,50,47,99,98]] (i*(1:Nat)+j))) (.c (.sl 1 (1:Nat) (strsF (baseC.getD (1:Nat) .nil).reds))),EqvI (.c (.sl 1 (1:Nat) fun i j=>nthD [.str [(104:UInt8),116,116,112,115,58,47,47,112,117,98,47,99,98]] (i*(1:Nat)+j))) (.c (.sl 1 (1:Nat) (strsF (baseC.getD (2:Nat) .nil).reds))),EqvD (.c (.sl 1 (1:Nat) fun i j=>nthD [.str [(104:UInt8),116,116,112,115,58,47,47,112,117,98,47,99,98]] (i*(1:Nat)+j))) (.c (.sl 1 (1:Nat) (strsF (baseC.getD (2:Nat) .nil).reds))),EqvI (.c (.sl 4 (3:Nat) fun i j=>nthD [.str [(99:UInt8),49],.int .i64 4,.sl 1 (2:Nat) (strsF (baseC.getD (0:Nat) .nil).reds),.str [(111:UInt8),112,101,110,105,100,32,112,114,111,102,105,108,101],.str [(99:UInt8),50],.int .i64 5,.sl 1 (1:Nat) (strsF (baseC.getD (1:Nat) .nil).reds),.str [(97:UInt8),32,111,112,101,110,105,100],.str [(112:UInt8),117,98],.int .i64 0,.sl 1 (1:Nat) (strsF (baseC.getD (2:Nat) .nil).reds),.str [(111:UInt8),112,101,110,105,100]] (i*(4:Nat)+j))) (.c (clS baseC)),EqvD (.c (.sl 4 (3:Nat) fun i j=>nthD [.str [(99:UInt8),49],.int .i64 4,.sl 1 (2:Nat) (strsF (baseC.getD (0:Nat) .nil).reds),.str [(111:UInt8),112,101,110,105,100,32,112,114,111,102,105,108,101],.str [(99:UInt8),50],.int .i64 5,.sl 1 (1:Nat) (strsF (baseC.getD (1:Nat) .nil).reds),.str [(97:UInt8),32,111,112,101,110,105,100],.str [(112:UInt8),117,98],.int .i64 0,.sl 1 (1:Nat) (strsF (baseC.getD (2:Nat) .nil).reds),.str [(111:UInt8),112,101,110,105,100]] (i*(4:Nat)+j))) (.c (clS baseC)),EqvI (.c (.sl 2 (2:Nat) fun i j=>nthD [.str [(97:UInt8),108,105,99,101],.int .i64 10,.str [(98:UInt8),111,98],.int .i64 11] (i*(2:Nat)+j))) (.c (usS baseU)),EqvD (.c (.sl 2 (2:Nat) fun i j=>nthD [.str [(97:UInt8),108,105,99,101],.int .i64 10,.str [(98:UInt8),111,98],.int .i64 11] (i*(2:Nat)+j))) (.c (usS baseU)),EqvI (.agg [.str [(97:UInt8),115],.int .i64 1,clS baseC,usS baseU,.nilsl]) (.agg (encSt baseT)),EqvD (.agg [.str [(97:UInt8),115],.int .i64 1,clS baseC,usS baseU,.nilsl]) (.agg (encSt baseT))] ⟨fun _ _=>trivial,lit_D kR,fun _ _=>trivial,lit_D kR,fun _ _=>trivial,lit_D kR,fun _ _=>trivial,lit_D kR,fun _ _=>trivial,lit_D kR,eqvI_flat _ _ kR,(show EqvD (.agg [.str [(97:UInt8),115],.int .i64 (1:Int),clS baseC,usS baseU,.nilsl]) (.agg (encSt baseT)) from aS)⟩ ?_
 exact zr
end Go.Proofs.Tw
end
