/- Own texts for this claim: Ir, SvKeep, SvRead, Is18, Is19, Is20, Is21, Iw, If. -/
import Derived.Test.YtjccbeodlcjidaaGreatDoorIssueFullCardP3
import Derived.Test.YtjccbeodlcjidaaGreatDoorIssueFullCardP7
import Derived.ChangeSlices
import Derived.Test.YtjccbeodlcjidaaGreatDoorIssueFullCardP5
set_option linter.all false
section
open Go Go.Sv Go.RowKit
namespace Go.Proofs.Tw
attribute [local irreducible] Wp FinQ resV Ent Pur Go.Sv.Fn Sat0
set_option maxRecDepth 100000
set_option maxHeartbeats 4000000
variable {G:Nat→Option (List Cell)}
theorem with_ne (k:Nat) (hk:k<3):(1+(k:Int))≠1+withT (1+(k:Int)) 3:=by
 match k,hk with
 | 0,_=>decide
 | 1,_=>decide
 | 2,_=>decide
theorem issueReplay_ok {m:Int} (n turns later:Int) (right:Bool):Pur Tryz.prog (Gn m) 4 [.c (.int .i64 n),.c (.int .i64 turns),.c (.int .i64 later),.c (.bool right)] [.c (.bool true)]:=by
 refine zp Tryz.func4 ?_
 have c1:=known22_ok (G:=Gn m)
 have c2:=within22_ok (G:=Gn m) n 3 dC dC
 have h2:=withT_rng n 3 dC
 generalize withT n 3=k0 at c2 h2
 obtain ⟨k,rfl⟩:∃ k:Nat,k0=(k:Int):=⟨k0.toNat,by omega⟩
 have hk:k<3:=by omega
 have c3:Pur Tryz.prog (Gn m) 15 [.c (.int .i64 (1+(k:Int))),.c (.int .i64 1)] [.agg (encSt (recS (rp0 (1+(k:Int)) (rightT (1+(k:Int)))))),.agg (encSo (srcN 106 0)),.agg (encGr (gR (1+(k:Int)) (rightT (1+(k:Int))) 0)),.c (.int .i64 103)]:=granted_ok (1+(k:Int)) 1 k 0 oM hk rfl dC
 have c4:=right_ok (G:=Gn m) (1+(k:Int)) oM oM
 have f4:FitW (rightT (1+(k:Int))):=(fit_right (1+(k:Int)) (30+withT (1+(k:Int)) 3)).fit
 have hq:chkT (baseC.getD k .nil) (rightT (1+(k:Int)))=0:=by rw [Int.add_comm];exact chkR k hk
 have c5:=push20_ok (G:=Gn m) (recS (rp0 (1+(k:Int)) (rightT (1+(k:Int))))) (recS_fit _ (by show 4≤1000000;decide)) (by show 4≤100000;decide) (srcN 106 0) ⟨by decide,by decide,by decide⟩ (1+(k:Int)) (rightT (1+(k:Int))) f4
 rw [push_rp (1+(k:Int)) (rightT (1+(k:Int))) k oM hk hq] at c5
 have hw:=withT_rng (1+(k:Int)) 3 dC
 have ch:=holds18_ok (G:=Gn m) (rightT (1+(k:Int))).chal (verT (1+(k:Int))) (k:=30+withT (1+(k:Int)) 3) (by show (keyT (30+withT (1+(k:Int)) 3)).length≤30000000000000;rw [key_len];decide) (readVer _) oM oM
 rw [show (chalT (30+withT (1+(k:Int)) 3)==(rightT (1+(k:Int))).chal)=true from by show (chalT (30+withT (1+(k:Int)) 3)==chalT (30+withT (1+(k:Int)) 3))=true;simp] at ch
 have c10:=ver_ok (G:=Gn m) (1+(k:Int))
 have ne:=with_ne k hk
 have c12:=within22_ok (G:=Gn m) (1+(k:Int)) 3 dC dC
 clear hq f4
 generalize withT (1+(k:Int)) 3=w0 at *
 generalize verT (1+(k:Int))=vv at *
 generalize rightT (1+(k:Int))=w at *
 have c6:=enterR (G:=Gn m) (1+(k:Int)) w k oM hk
 have c7:=Key_ok (G:=Gn m) 11 dC dC
 have c8:=loginR (G:=Gn m) (1+(k:Int)) w
 have c9:=agreeR (G:=Gn m) (1+(k:Int)) w
 have c11:=redeemR (G:=Gn m) (1+(k:Int)) w vv ch
 have e1:EqvD (.c (.int .i64 (1+(k:Int)-1))) (.c (.int .i64 (k:Int))):=eqvD_of (by rw [show 1+(k:Int)-1=(k:Int) by omega])
 have hi:0≤(k:Int)∧(k:Int)<((recS (rp1 (1+(k:Int)) w)).cls.length:Int):=⟨by omega,by show (k:Int)<((3:Nat):Int);omega⟩
 generalize keyT 11=k11 at *
 clear ch
 refine zg [(6,{cs:=[(10,pc c6)],fm:=[(5,.c (.int .i64 (k:Int)))]}),(1,{cs:=[(0,pc c1)]}),(3,{cs:=[(1,pc c2)]}),(4,{cs:=[(1,pc c3)]}),(5,{cs:=[(4,pc c4),(5,pc c5)]}),(7,{cs:=[(5,pc c7),(6,pc c8)]}),(8,{cs:=[(4,pc c9)]}),(9,{cs:=[(5,pc c4),(8,pc c10),(9,pc c11)]})] [false] [(!true)=false,inR .i64 (1+(k:Int)),EqvI (.c (.int .i64 (1+(k:Int)-1))) (.c (.int .i64 (k:Int))),EqvD (.c (.int .i64 (1+(k:Int)-1))) (.c (.int .i64 (k:Int))),inR .i64 (1+(k:Int)-1),(0:Int)≤(k:Int)∧(k:Int)<(↑(3:Nat):Int)] ⟨rfl,i6,fun _ _=>trivial,aS,i6,(show (0:Int)≤(↑k:Int)∧(↑k:Int)<(↑(3:Nat):Int) from oM)⟩ ?_
 have c13:=within22_ok (G:=Gn m) turns 4 dC dC
 have h13:=withT_rng turns 4 dC
 generalize withT turns 4=T0 at c13 h13
 obtain ⟨T,rfl⟩:∃ T:Nat,T0=(T:Int):=⟨T0.toNat,by omega⟩
 have hT:T<4:=by omega
 refine zl (fun (i:Nat)=>⟨[(1,.v (.c (.int .i64 turns))),(2,.v (.c (.int .i64 later))),(3,.v (.c (.bool right))),(9,.v (.c (.int .i64 ((1:Int)+(k:Int))))),(10,.v (.c (.ptr 224 0))),(11,.v (.c (.ptr 240 0))),(12,.v (.c (.ptr 256 0))),(13,.v (.c (.int .i64 103))),(20,.v (.c (.int .i64 109))),(22,.v (.c (.int .i64 (i:Int))))],[(224,.box 28 (encSt (recS (rpL (1+(k:Int)) w i)))),(240,.box 30 (encSo (srcN (112+2*(i:Int)) 0))),(256,.box 39 (encGr (gR (1+(k:Int)) w i)))],1664⟩) (fun i=>i≤T) (fun i=>T-i) 0 (Nat.zero_le _) ?_
 intro i L hiT again
 rcases Nat.lt_or_ge i T with hlt | hge
 ·have rt:=renewR (G:=Gn m) (1+(k:Int)) w i oM
  have t1:decide ((i:Int)<(T:Int))=true:=decide_eq_true oM
  refine zg [(11,{cs:=[(2,pc c13)]}),(13,{cs:=[(5,pc rt)]})] [true,false] [decide ((i:Int)<(T:Int))=true,((0:Int) != (0:Int))=false,inR .i64 ((i:Int)+1)] ⟨aS,rfl,i6⟩ ?_
  exact za [] (again _ (i+1) aS oM)
 ·obtain rfl:i=T:=by omega
  have t1:decide ((i:Int)<(i:Int))=false:=decide_eq_false oM
  have d1:=within22_ok (G:=Gn m) later 40 dC dC
  have hd:=withT_rng later 40 dC
  generalize withT later 40=t at d1 hd
  have he:=endR (1+(k:Int)) w i hT
  have hl:=he.l0
  have y1:=he.l1
  have y2:=he.l2
  have y3:=he.l3
  have y4:=he.l4
  have rl:(revT 103 (rpL (1+(k:Int)) w i)).length≤100000:=Nat.le_trans (List.length_filter_le _ _) oM
  have k1:=tokens_ok (G:=Gn m) (recS (rpL (1+(k:Int)) w i)) 103 (by show (rpL (1+(k:Int)) w i).length≤100000;omega)
  have k2:=tokens_ok (G:=Gn m) (recS (rpL (1+(k:Int)) w i)) 109 (by show (rpL (1+(k:Int)) w i).length≤100000;omega)
  have k3:=tokens_ok (G:=Gn m) (recS (revT 103 (rpL (1+(k:Int)) w i))) 103 rl
  have k4:=tokens_ok (G:=Gn m) (recS (revT 103 (rpL (1+(k:Int)) w i))) 109 rl
  have r1:=again_rp (G:=Gn m) (1+(k:Int)) t (112+2*(i:Int)) w i hT hd.2 w.redir
  have r2:=other_rp (G:=Gn m) (1+(k:Int)) t (112+2*(i:Int)) (1+w0) w i hT hd.2 ne w.redir
  have sm:=same20G_ok (G:=Gn m) (recS (rpL (1+(k:Int)) w i)) (recS (rpL (1+(k:Int)) w i)) (recS_fit _ oM)
  rw [sameS_self] at sm
  have z1:(recS (rpL (1+(k:Int)) w i)).recs=rpL (1+(k:Int)) w i:=rfl
  have z2:(recS (revT 103 (rpL (1+(k:Int)) w i))).recs=revT 103 (rpL (1+(k:Int)) w i):=rfl
  rw [z1] at k1 k2
  rw [z2] at k3 k4
  clear he z1 z2 rl hl
  generalize tokL 103 (revT 103 (rpL (1+(k:Int)) w i))=a3 at *
  generalize tokL 109 (revT 103 (rpL (1+(k:Int)) w i))=a4 at *
  generalize revT 103 (rpL (1+(k:Int)) w i)=lv at *
  generalize tokL 103 (rpL (1+(k:Int)) w i)=a1 at *
  generalize tokL 109 (rpL (1+(k:Int)) w i)=a2 at *
  cases right with
  | true =>
   have r1:=r1 vv
   have r2:=r2 vv
   refine zg [(11,{cs:=[(2,pc c13)]}),(17,{cs:=[(1,pc d1)]}),(18,{cs:=[(2,pc k1),(5,pc k2)]}),(19,{cs:=[(1,pc c10)]}),(22,{cs:=[(5,pc c4),(8,pc r1)]}),(23,{cs:=[(3,pc c12),(7,pc c4),(10,pc r2)]}),(24,{cs:=[(16,pc c13),(24,pc k3),(31,pc k4),(44,pc sm)]})] [false,false] [decide ((i:Int)<(i:Int))=false,(!true)=false,inR .i64 (1+w0),(bif bif (13:Int)==(13:Int) then (srcN ((112:Int)+(2:Int)*(i:Int)) t).n==(srcN ((112:Int)+(2:Int)*(i:Int)) (0:Int)).n&&((srcN ((112:Int)+(2:Int)*(i:Int)) t).conn==(srcN ((112:Int)+(2:Int)*(i:Int)) (0:Int)).conn&&((srcN ((112:Int)+(2:Int)*(i:Int)) t).now==t&&true)) else false then GrT.nil.acc==(0:Int)&&(GrT.nil.ref==(0:Int)&&(GrT.nil.r.kind==(0:Int)&&(GrT.nil.r.key==(0:Int)&&(GrT.nil.r.til==(0:Int)&&(GrT.nil.r.used==false&&(GrT.nil.r.client==(0:Int)&&(GrT.nil.r.user==(0:Int)&&(GrT.nil.r.sess==(0:Int)&&(GrT.nil.r.fam==(0:Int)&&(GrT.nil.r.w.ty==[]&&(GrT.nil.r.w.redir==[]&&(GrT.nil.r.w.scope==[]&&(GrT.nil.r.w.state==[]&&(GrT.nil.r.w.nonce==[]&&(GrT.nil.r.w.chal==[]&&(GrT.nil.r.w.meth==[]&&true))))))&&true))))))))&&true)) else false)=true→inR .i64 ((2:Int)*(i:Int)),(bif bif (13:Int)==(13:Int) then (srcN ((112:Int)+(2:Int)*(i:Int)) t).n==(srcN ((112:Int)+(2:Int)*(i:Int)) (0:Int)).n&&((srcN ((112:Int)+(2:Int)*(i:Int)) t).conn==(srcN ((112:Int)+(2:Int)*(i:Int)) (0:Int)).conn&&((srcN ((112:Int)+(2:Int)*(i:Int)) t).now==t&&true)) else false then GrT.nil.acc==(0:Int)&&(GrT.nil.ref==(0:Int)&&(GrT.nil.r.kind==(0:Int)&&(GrT.nil.r.key==(0:Int)&&(GrT.nil.r.til==(0:Int)&&(GrT.nil.r.used==false&&(GrT.nil.r.client==(0:Int)&&(GrT.nil.r.user==(0:Int)&&(GrT.nil.r.sess==(0:Int)&&(GrT.nil.r.fam==(0:Int)&&(GrT.nil.r.w.ty==[]&&(GrT.nil.r.w.redir==[]&&(GrT.nil.r.w.scope==[]&&(GrT.nil.r.w.state==[]&&(GrT.nil.r.w.nonce==[]&&(GrT.nil.r.w.chal==[]&&(GrT.nil.r.w.meth==[]&&true))))))&&true))))))))&&true)) else false)=true→inR .i64 ((2:Int)+(2:Int)*(i:Int))] ⟨aS,rfl,(i6),(fun _=>i6),(fun _=>i6)⟩ ?_
   exact zS [.c (.bool (bif bif bif bif bif bif bif (13:Int)==(13:Int) then (srcN ((112:Int)+(2:Int)*(↑i:Int)) t).n==(srcN ((112:Int)+(2:Int)*(↑i:Int)) (0:Int)).n&&((srcN ((112:Int)+(2:Int)*(↑i:Int)) t).conn==(srcN ((112:Int)+(2:Int)*(↑i:Int)) (0:Int)).conn&&((srcN ((112:Int)+(2:Int)*(↑i:Int)) t).now==t&&true)) else false then GrT.nil.acc==(0:Int)&&(GrT.nil.ref==(0:Int)&&(GrT.nil.r.kind==(0:Int)&&(GrT.nil.r.key==(0:Int)&&(GrT.nil.r.til==(0:Int)&&(GrT.nil.r.used==false&&(GrT.nil.r.client==(0:Int)&&(GrT.nil.r.user==(0:Int)&&(GrT.nil.r.sess==(0:Int)&&(GrT.nil.r.fam==(0:Int)&&(GrT.nil.r.w.ty==[]&&(GrT.nil.r.w.redir==[]&&(GrT.nil.r.w.scope==[]&&(GrT.nil.r.w.state==[]&&(GrT.nil.r.w.nonce==[]&&(GrT.nil.r.w.chal==[]&&(GrT.nil.r.w.meth==[]&&true))))))&&true))))))))&&true)) else false then (↑a1.length:Int)==(2:Int)+(2:Int)*(↑i:Int) else false then (↑a3.length:Int)==(0:Int) else false then (↑a4.length:Int)==(↑a2.length:Int) else false then (13:Int)==(13:Int) else false then true else false))] (by show [V1.c (Cell.bool _)]=_;have y5:(a1.length:Int)=2+2*(i:Int):=oM;have y6:(a3.length:Int)=0:=oM;have y7:(a4.length:Int)=(a2.length:Int):=oM;simp [srcN,GrT.nil,RcT.nil,WT.nil,y5,y6,y7])
  | false =>
   have r1:=r1 [120]
   have r2:=r2 [120]
   refine zg [(11,{cs:=[(2,pc c13)]}),(17,{cs:=[(1,pc d1)]}),(18,{cs:=[(2,pc k1),(5,pc k2)]}),(19,{cs:=[(1,pc c10)]}),(22,{cs:=[(5,pc c4),(8,pc r1)]}),(23,{cs:=[(3,pc c12),(7,pc c4),(10,pc r2)]}),(24,{cs:=[(16,pc c13),(24,pc k3),(31,pc k4),(44,pc sm)]})] [false,true] [decide ((i:Int)<(i:Int))=false,(!false)=true,inR .i64 (1+w0),(bif bif (13:Int)==(13:Int) then (srcN ((112:Int)+(2:Int)*(i:Int)) t).n==(srcN ((112:Int)+(2:Int)*(i:Int)) (0:Int)).n&&((srcN ((112:Int)+(2:Int)*(i:Int)) t).conn==(srcN ((112:Int)+(2:Int)*(i:Int)) (0:Int)).conn&&((srcN ((112:Int)+(2:Int)*(i:Int)) t).now==t&&true)) else false then GrT.nil.acc==(0:Int)&&(GrT.nil.ref==(0:Int)&&(GrT.nil.r.kind==(0:Int)&&(GrT.nil.r.key==(0:Int)&&(GrT.nil.r.til==(0:Int)&&(GrT.nil.r.used==false&&(GrT.nil.r.client==(0:Int)&&(GrT.nil.r.user==(0:Int)&&(GrT.nil.r.sess==(0:Int)&&(GrT.nil.r.fam==(0:Int)&&(GrT.nil.r.w.ty==[]&&(GrT.nil.r.w.redir==[]&&(GrT.nil.r.w.scope==[]&&(GrT.nil.r.w.state==[]&&(GrT.nil.r.w.nonce==[]&&(GrT.nil.r.w.chal==[]&&(GrT.nil.r.w.meth==[]&&true))))))&&true))))))))&&true)) else false)=true→inR .i64 ((2:Int)*(i:Int)),(bif bif (13:Int)==(13:Int) then (srcN ((112:Int)+(2:Int)*(i:Int)) t).n==(srcN ((112:Int)+(2:Int)*(i:Int)) (0:Int)).n&&((srcN ((112:Int)+(2:Int)*(i:Int)) t).conn==(srcN ((112:Int)+(2:Int)*(i:Int)) (0:Int)).conn&&((srcN ((112:Int)+(2:Int)*(i:Int)) t).now==t&&true)) else false then GrT.nil.acc==(0:Int)&&(GrT.nil.ref==(0:Int)&&(GrT.nil.r.kind==(0:Int)&&(GrT.nil.r.key==(0:Int)&&(GrT.nil.r.til==(0:Int)&&(GrT.nil.r.used==false&&(GrT.nil.r.client==(0:Int)&&(GrT.nil.r.user==(0:Int)&&(GrT.nil.r.sess==(0:Int)&&(GrT.nil.r.fam==(0:Int)&&(GrT.nil.r.w.ty==[]&&(GrT.nil.r.w.redir==[]&&(GrT.nil.r.w.scope==[]&&(GrT.nil.r.w.state==[]&&(GrT.nil.r.w.nonce==[]&&(GrT.nil.r.w.chal==[]&&(GrT.nil.r.w.meth==[]&&true))))))&&true))))))))&&true)) else false)=true→inR .i64 ((2:Int)+(2:Int)*(i:Int))] ⟨aS,rfl,(i6),(fun _=>i6),(fun _=>i6)⟩ ?_
   exact zS [.c (.bool (bif bif bif bif bif bif bif (13:Int)==(13:Int) then (srcN ((112:Int)+(2:Int)*(↑i:Int)) t).n==(srcN ((112:Int)+(2:Int)*(↑i:Int)) (0:Int)).n&&((srcN ((112:Int)+(2:Int)*(↑i:Int)) t).conn==(srcN ((112:Int)+(2:Int)*(↑i:Int)) (0:Int)).conn&&((srcN ((112:Int)+(2:Int)*(↑i:Int)) t).now==t&&true)) else false then GrT.nil.acc==(0:Int)&&(GrT.nil.ref==(0:Int)&&(GrT.nil.r.kind==(0:Int)&&(GrT.nil.r.key==(0:Int)&&(GrT.nil.r.til==(0:Int)&&(GrT.nil.r.used==false&&(GrT.nil.r.client==(0:Int)&&(GrT.nil.r.user==(0:Int)&&(GrT.nil.r.sess==(0:Int)&&(GrT.nil.r.fam==(0:Int)&&(GrT.nil.r.w.ty==[]&&(GrT.nil.r.w.redir==[]&&(GrT.nil.r.w.scope==[]&&(GrT.nil.r.w.state==[]&&(GrT.nil.r.w.nonce==[]&&(GrT.nil.r.w.chal==[]&&(GrT.nil.r.w.meth==[]&&true))))))&&true))))))))&&true)) else false then (↑a1.length:Int)==(2:Int)+(2:Int)*(↑i:Int) else false then (↑a3.length:Int)==(0:Int) else false then (↑a4.length:Int)==(↑a2.length:Int) else false then (13:Int)==(13:Int) else false then true else false))] (by show [V1.c (Cell.bool _)]=_;have y5:(a1.length:Int)=2+2*(i:Int):=oM;have y6:(a3.length:Int)=0:=oM;have y7:(a4.length:Int)=(a2.length:Int):=oM;simp [srcN,GrT.nil,RcT.nil,WT.nil,y5,y6,y7])
end Go.Proofs.Tw
end
section
namespace Go.Sv
theorem mapM_keep {α β:Type} {f g:α→Option β}:∀ {l:List α} {ys:List β},l.mapM f=some ys→(∀ x∈l,∀ y,f x=some y→y∈ys→g x=some y)→l.mapM g=some ys
 | [],ys,h,_=>by simpa using h
 | x::l,ys,h,hg=>by
  rw [List.mapM_cons] at h ⊢
  cases hx:f x with
  | none=>rw [hx] at h; cases h
  | some y =>
   rw [hx] at h
   cases hl:l.mapM f with
   | none=>rw [hl] at h; cases h
   | some zs =>
    rw [hl] at h
    obtain rfl:y::zs=ys:=by simpa using h
    rw [hg x (by simp) y hx (by simp),mapM_keep hl (fun u hu v hv hm=>hg u (by simp [hu]) v hv (by simp [hm]))]
    rfl
theorem cell_keep {W W':World} (hk:∀ b,b<W.heap.size→W'.heap[b]?=W.heap[b]?) {a:Addr} {v:Value} (h:W.cell? a=some v):W'.cell? a=some v:=by
 have hb:a.block<W.heap.size:=by
  rcases Nat.lt_or_ge a.block W.heap.size with hlt | hge
  ·exact hlt
  ·simp [World.cell?,Array.getElem?_eq_none hge] at h
 simp only [World.cell?,hk _ hb] at h ⊢
 exact h
theorem cells_keep {W W':World} (hk:∀ b,b<W.heap.size→W'.heap[b]?=W.heap[b]?) {base:Nat} {a:Addr} {n:Nat} {l:List Value} (h:W.cells? base a n=some l):W'.cells? base a n=some l:=by
 unfold World.cells? at h ⊢
 split at h
 ·rename_i hb
  rw [if_pos hb]
  exact mapM_keep h (fun x _ y hy _=>cell_keep hk hy)
 ·cases h
def stepT (P:Program) (S:TypeId→Bool) (t:TypeId):Bool:=match P.underlying t with
 | some (.slice e) => !(Nat.beq (P.cellsOf e) 0)&&S e
 | some (.pointer e)=>S e
 | some (.struct fs)=>fs.toList.all fun f=>S f.type
 | some (.array _ e)=>S e
 | some (.map _ e)=>S e
 | _=>true
def inL (l:List TypeId) (t:TypeId):Bool:=l.any fun u=>Nat.beq u t
def closedT (P:Program) (l:List TypeId):Bool:=l.all (stepT P (inL l))
theorem closed_step {P:Program} {l:List TypeId} (h:closedT P l=true) {t:TypeId} (ht:inL l t=true):stepT P (inL l) t=true:=by
 obtain ⟨u,hu,e⟩:=List.any_eq_true.1 ht
 obtain rfl:u=t:=Nat.eq_of_beq_eq_true e
 exact List.all_eq_true.1 h u hu
theorem trod_keep {H:Type} {enc:TypeId×Value→H} {P:Program} {W W':World} {base:Nat} {sp sp':Nat→Bool} {l:List TypeId} (hk:∀ b,b<W.heap.size→W'.heap[b]?=W.heap[b]?)
  (hz:closedT P l=true) (hsp:∀ b,sp b=true):∀ (fuel:Nat) (t:TypeId) (cs:List Value) (d:DataW H) (p:List MemPlace),inL l t=true→DataW.trod enc P W base sp true fuel t cs=some (d,p) →
   (∀ q∈p,sp' q.block=true)→DataW.trod enc P W' base sp' true fuel t cs=some (d,p):=by
 intro fuel
 induction fuel with
 | zero=>intro t cs d p _ h; simp [DataW.trod] at h
 | succ fuel ih =>
  intro t cs d p hin h hs
  have hst:=closed_step hz hin
  unfold stepT at hst
  unfold DataW.trod at h ⊢
  generalize hu:P.underlying t=u at h hst ⊢
  split at h
  case h_6 e a =>
   simp only at hst
   rw [Option.map_eq_some_iff] at h
   obtain ⟨x,hx,he⟩:=h
   rw [Option.bind_eq_some_iff] at hx
   obtain ⟨vl,hl,hx⟩:=hx
   simp only [Prod.mk.injEq] at he
   obtain ⟨rfl,rfl⟩:=he
   simp only [cells_keep hk hl,Option.bind_some]
   rw [ih e vl x.1 x.2 hst hx (fun q hq=>hs q (by simp [hq]))]
   rfl
  case h_8 e a len cap =>
   simp only [Bool.and_eq_true,Bool.not_eq_true'] at hst
   have hz:P.cellsOf e≠0:=fun h0=>by rw [h0] at hst;exact absurd hst.1 dC
   simp only at h ⊢
   split at h
   ·rename_i hc
    rw [if_pos hc]
    rw [Option.bind_eq_some_iff] at h
    obtain ⟨elems,hel,h⟩:=h
    rw [Option.map_eq_some_iff] at h
    obtain ⟨rest,hre,he⟩:=h
    simp only [Prod.mk.injEq] at he
    obtain ⟨rfl,rfl⟩:=he
    have elemAt:∀ (i:Nat) (y:DataW H×List MemPlace),(W.cells? base (a.add (i*P.cellsOf e)) (P.cellsOf e)).bind (DataW.trod enc P W base sp true fuel e)=some y→y∈elems++rest →
      (W'.cells? base (a.add (i*P.cellsOf e)) (P.cellsOf e)).bind (DataW.trod enc P W' base sp' true fuel e)=some y:=by
     intro i y hy hm
     rw [Option.bind_eq_some_iff] at hy ⊢
     obtain ⟨vl,hl,hy⟩:=hy
     exact ⟨vl,cells_keep hk hl,ih e vl y.1 y.2 hst.2 hy (fun q hq=>hs q (List.mem_append_right _ (List.mem_flatMap.2 ⟨y,hm,hq⟩)))⟩
    rw [mapM_keep hel (fun x _ y hy hm=>elemAt x y hy (List.mem_append_left _ hm))]
    simp only [Option.bind_some]
    have hrest:(if sp' a.block=true then (List.range (cap-len)).mapM fun j=>(W'.cells? base (a.add ((len+j)*P.cellsOf e)) (P.cellsOf e)).bind (DataW.trod enc P W' base sp' true fuel e) else some [])=some rest:=by
     by_cases h0:elems.length+rest.length=0
     ·have hr:rest=[]:=List.eq_nil_of_length_eq_zero oM
      have hle:elems=[]:=List.eq_nil_of_length_eq_zero oM
      have none0:∀ {f:Nat→Option (DataW H×List MemPlace)} {n:Nat} {ys:List (DataW H×List MemPlace)},(List.range n).mapM f=some ys→ys=[]→n=0:=by
       intro f n ys h hy
       subst hy
       cases n with
       | zero=>rfl
       | succ n =>
        rw [List.range_succ_eq_map,List.mapM_cons] at h
        exfalso
        revert h
        cases f 0 with
        | none=>intro h; cases h
        | some y =>
         intro h
         simp only [Option.bind_eq_bind,Option.bind_some] at h
         rw [Option.bind_eq_some_iff] at h
         obtain ⟨_,_,h⟩:=h
         simp at h
      have hlen:=none0 hel hle
      rw [if_pos (hsp _)] at hre
      have hc0:=none0 hre hr
      rw [hc0,hr]
      simp
     ·have hb:sp' a.block=true:=by
       have hm:(MemPlace.cell a.block (a.off+0))∈MemPlace.row a ((elems.length+rest.length)*P.cellsOf e):=by
        unfold MemPlace.row
        refine List.mem_map.2 ⟨0,List.mem_range.2 ?_,rfl⟩
        exact Nat.mul_pos oM oM
       exact hs _ (List.mem_append_left _ hm)
      rw [if_pos hb]
      rw [if_pos (hsp _)] at hre
      exact mapM_keep hre (fun x _ y hy hm=>elemAt (len+x) y hy (List.mem_append_right _ hm))
    rw [hrest]
    rfl
   ·cases h
  case h_9 fs =>
   split at h
   ·rename_i hc
    rw [if_pos hc]
    rw [Option.map_eq_some_iff] at h
    obtain ⟨xs,hx,he⟩:=h
    simp only [Prod.mk.injEq] at he
    obtain ⟨rfl,rfl⟩:=he
    rw [mapM_keep hx (fun f hf y hy hm=>ih _ _ y.1 y.2 (List.all_eq_true.1 hst f hf) hy (fun q hq=>hs q (List.mem_flatMap.2 ⟨y,hm,hq⟩)))]
    rfl
   ·cases h
  case h_10 n e =>
   split at h
   ·rename_i hc
    rw [if_pos hc]
    rw [Option.map_eq_some_iff] at h
    obtain ⟨xs,hx,he⟩:=h
    simp only [Prod.mk.injEq] at he
    obtain ⟨rfl,rfl⟩:=he
    rw [mapM_keep hx (fun f _ y hy hm=>ih _ _ y.1 y.2 hst hy (fun q hq=>hs q (List.mem_flatMap.2 ⟨y,hm,hq⟩)))]
    rfl
   ·cases h
  case h_12 ms u v=>exact h
  case h_14 k e b =>
   cases hb:W.heap[b]? with
   | none=>rw [hb] at h; cases h
   | some o =>
    have hlt:b<W.heap.size:=by
     rcases Nat.lt_or_ge b W.heap.size with hlt | hge
     ·exact hlt
     ·rw [Array.getElem?_eq_none hge] at hb;cases hb
    rw [hb] at h
    rw [hk b hlt,hb]
    cases o with
    | map es clock =>
     simp only at h ⊢
     split at h
     ·rename_i hc
      rw [if_pos hc]
      rw [Option.bind_eq_some_iff] at h
      obtain ⟨entries,he,h⟩:=h
      have he':entries.flatMap (fun x=>x.2) ⊆ p:=by
       split at h
       ·simp only [Option.some.injEq,Prod.mk.injEq] at h
        rw [← h.2]
        exact fun x hx=>List.mem_cons_of_mem _ hx
       ·cases h
      rw [mapM_keep (g:=fun x=>(keyOf P k x.key).bind fun key=>if x.val.formed P e then (DataW.trod enc P W' base sp' true fuel e x.val.cells.toList).map fun y=>((key,y.1),y.2) else none) he (fun x _ y hy hm=>by
       rw [Option.bind_eq_some_iff] at hy ⊢
       obtain ⟨key,hkey,hy⟩:=hy
       refine ⟨key,hkey,?_⟩
       split at hy
       ·rename_i hf
        rw [if_pos hf]
        rw [Option.map_eq_some_iff] at hy ⊢
        obtain ⟨z,hz',rfl⟩:=hy
        exact ⟨z,ih e _ z.1 z.2 hst hz' (fun q hq=>hs q (he' (List.mem_flatMap.2 ⟨_,hm,hq⟩))),rfl⟩
       ·cases hy)]
      exact h
     ·cases h
    | _=>cases h
  all_goals exact h
theorem trodAll_keep {H:Type} {enc:TypeId×Value→H} {P:Program} {W W':World} {base:Nat} {sp sp':Nat→Bool} {l:List TypeId} (hk:∀ b,b<W.heap.size→W'.heap[b]?=W.heap[b]?)
  (hz:closedT P l=true) (hsp:∀ b,sp b=true):∀ (ts:List TypeId) (vs:List Value) (ds:List (DataW H)) (p:List MemPlace),(∀ t∈ts,inL l t=true)→DataW.TrodAll enc P W base sp true ts vs ds p →
   (∀ q∈p,sp' q.block=true)→DataW.TrodAll enc P W' base sp' true ts vs ds p
 | [],[],[],p,_,h,_=>h
 | t::ts,v::vs,d::ds,p,hl,⟨p1,q1,⟨fuel,h1⟩,h2,e⟩,hs =>
  ⟨p1,q1,⟨fuel,trod_keep hk hz hsp fuel t _ d p1 (hl t (by simp)) h1 (fun q hq=>hs q (by rw [e];simp [hq]))⟩,trodAll_keep hk hz hsp ts vs ds q1 (fun t ht=>hl t (by simp [ht])) h2 (fun q hq=>hs q (by rw [e];simp [hq])),e⟩
theorem int_den {P:Program} {W:World} {base0:Nat} {t:TypeId} {k:IntKind} (ht:P.underlying t=some (.int k)) {v:Value} (hok:Value.okWide P W .any base0 t v) :
  ∃ z:Int,DenV (Dw W) rho0 (.c (.int k z)) v:=by
 obtain ⟨n,rfl⟩:=Go.WideShapes.okWide_int ht hok
 exact ⟨n,rfl⟩
end Go.Sv
end
section
namespace Go.Sv
theorem bool_den {P:Program} {W:World} {base0:Nat} {t:TypeId} (ht:P.underlying t=some .bool) {v:Value} (hok:Value.okWide P W .any base0 t v) :
  ∃ b:Bool,DenV (Dw W) rho0 (.c (.bool b)) v:=by
 obtain ⟨b,rfl⟩:=Go.WideShapes.okWide_bool ht hok
 exact ⟨b,rfl⟩
theorem int_shape {P:Program} {w:World} {g:Nat} {t:TypeId} {zero:Array Value} {k:IntKind} (h:w.ShapedOpen P) (hg:g<P.globals.size)
  (h0:((begin P (fun _ _=>0) default).world.heap[g]?).bind Obj.row?=some (zero,t)) (hz:zero.size=1)
  (hb:P.buildable t=true) (hc:P.cellTypes P.depth t=some [t]) (hu:P.underlying t=some (.int k)):∃ (m:Int) (cs:Array Value) (fz:Nat×Nat),w.heap[g]?=some (.cells cs t fz)∧cs.size=1∧cs[0]?=some (.int k m):=by
 obtain ⟨cs,hh,hs,hr⟩:=h.1 g zero t hg h0
 obtain ⟨ts,hts,_,hall⟩:=hr hb
 rw [hc] at hts
 cases hts
 have h1:0<cs.size:=by omega
 obtain ⟨u,hu',hok⟩:=hall 0 cs[0] (by simp [h1])
 have:u=t:=by simpa using hu'.symm
 subst this
 have hcell:cs[0]?=some cs[0]:=by simp [h1]
 unfold Cell.ok at hok
 rw [hu] at hok
 cases hv:cs[0] with
 | int k' n =>
  rw [hv] at hok
  have hk:k'=k:=by first | exact hok.1 | exact hok.1.symm | (simp at hok;exact hok.1) | (simp at hok;exact hok.1.symm)
  subst hk
  exact ⟨n,cs,_,hh,by omega,by rw [hcell,hv]⟩
 | _=>rw [hv] at hok; simp at hok
theorem glob_plus {P:Program} {G:Nat→Option (List Cell)} {W:World} {laid:List (String×DataW Unit)} {g0:Nat} {k:IntKind} {m:Int} {cs0:Array Value} {t0:TypeId} {fz0:Nat×Nat} (h:laidMet P laid W)
  (hw:W.heap[g0]?=some (.cells cs0 t0 fz0)) (hs:cs0.size=1) (hx:cs0[0]?=some (.int k m)) (h0:G g0=some [.int k m])
  (hG:∀ g cs,g≠g0→G g=some cs→∃ n d t,(n,d)∈laid∧P.globalNamed n=some g∧(P.globals[g]?).map (·.type)=some t∧dc P 9 t d=some cs):GlobOk G (Dw W)∧GlobW G W:=by
 obtain ⟨k1,k2⟩:=glob_ok (G:=fun g=>if g=g0 then none else G g) (laid:=laid) h (fun g cs hg=>by
  split at hg
  ·cases hg
  ·rename_i hne;exact hG g cs hne hg)
 refine ⟨fun g cs hg j x hj => ?_,fun g cs hg hne => ?_⟩
 ·by_cases e:g=g0
  ·subst e
   rw [h0] at hg
   obtain rfl:=Option.some.inj hg
   cases j with
   | zero =>
    simp at hj;subst hj
    exact ⟨.int k m,by simp only [Dw,World.cell?,hw,Option.isSome_none,Bool.false_eq_true,if_false];exact hx,rfl⟩
   | succ j=>simp at hj
  ·exact k1 g cs (by show (if g=g0 then none else G g)=some cs;rw [if_neg e];exact hg) j x hj
 ·by_cases e:g=g0
  ·subst e
   rw [h0] at hg
   obtain rfl:=Option.some.inj hg
   exact ⟨cs0,t0,fz0,hw,by rw [hs];rfl⟩
  ·exact k2 g cs (by show (if g=g0 then none else G g)=some cs;rw [if_neg e];exact hg) hne
end Go.Sv
end
section
open Go Go.Sv Go.RowKit
namespace Go.Proofs.Tw
attribute [local irreducible] Wp FinQ resV Ent Pur Go.Sv.Fn Sat0
set_option maxRecDepth 100000
set_option maxHeartbeats 4000000
variable {G:Nat→Option (List Cell)}
theorem refresh_no (s:StT) (src:SoT) (e:RcT) (a:AsT) {r:RcT} {b:Bool} (hr:s.recs.length≤100000) (hf:findT s.recs src.now 6 a.key=(r,b)) (h:b=false∨(r.client != a.client)=true):FnB Tryz.prog G 49 [deskI s src e] [.c (.ptr 0 0),.agg (encAs a)] [.c (.int .i64 13)] [(0,deskI s src e)]:=by
 refine zf Tryz.func49 ?_
 have c:=finds_no (G:=G) s src e 6 a.client a.key hr hf h
 clear hf h
 refine zg [(1,{cs:=[(5,cb [0] c)]})] [true] [((13:Int) != (0:Int))=true] rfl ?_
 exact zb []
theorem refresh_used (s:StT) (src:SoT) (e:RcT) (a:AsT) {r:RcT} (hr:s.recs.length≤100000) (hf:findT s.recs src.now 6 a.key=(r,true)) (h1:(r.client != a.client)=false) (h2:r.used=true):FnB Tryz.prog G 49 [deskI s src e] [.c (.ptr 0 0),.agg (encAs a)] [.c (.int .i64 13)] [(0,deskI { s with recs:=revT r.fam s.recs } src e)]:=by
 refine zf Tryz.func49 ?_
 have c:=finds_used (G:=G) s src e 6 a.client a.key hr hf h1 h2
 clear hf h1 h2
 generalize revT r.fam s.recs=v at *
 refine zg [(1,{cs:=[(5,cb [0] c)]})] [true] [((13:Int) != (0:Int))=true] rfl ?_
 exact zb []
theorem refresh_words (s:StT) (src:SoT) (e:RcT) (a:AsT) {r:RcT} {wi:Bool} {er:Int} (hr:s.recs.length≤100000) (hf:findT s.recs src.now 6 a.key=(r,true)) (h1:(r.client != a.client)=false) (h2:r.used=false) (h3:(!(a.scope==([]:List UInt8)))=true) (cw:Pur Tryz.prog G 65 [.c (.str a.scope),.c (.str r.w.scope)] [.c (.bool wi)]) (he:er=if wi then 0 else 12):FnB Tryz.prog G 49 [deskI s src e] [.c (.ptr 0 0),.agg (encAs a)] [.c (.int .i64 er)] [(0,deskI s src r)]:=by
 refine zf Tryz.func49 ?_
 have c:=finds_ok (G:=G) s src e 6 a.client a.key hr hf h1 h2
 clear hf h1 h2
 subst he
 cases wi with
 | true =>
  simp only [if_true]
  refine zg [(1,{cs:=[(5,cb [0] c)]}),(4,{cs:=[(12,pc cw)]})] [false,false] [((0:Int) != (0:Int))=false,(bif !a.scope==[] then !true else false)=false] ⟨rfl,(show (bif !a.scope==[] then !true else false)=false from (by simp;done))⟩ ?_
  exact zb []
 | false =>
  simp only [Bool.false_eq_true,if_false]
  refine zg [(1,{cs:=[(5,cb [0] c)]}),(4,{cs:=[(12,pc cw)]})] [false,true] [((0:Int) != (0:Int))=false,(bif !a.scope==[] then !false else false)=true] ⟨rfl,(show (bif !a.scope==[] then !false else false)=true from (by simp_all<;>omega))⟩ ?_
  exact zb []
theorem servesR_er (s s2:StT) (src:SoT) (a:AsT) (r:RcT) {er:Int} (hs:FitS s) (he:(er != 0)=true) (c1:FnB Tryz.prog G 49 [deskI s src .nil] [.c (.ptr 0 0),.agg (encAs a)] [.c (.int .i64 er)] [(0,deskI s2 src r)]):Pur Tryz.prog G 27 [.agg (encSt s),.agg (encSo src),.agg (encAs a),.c (fnC 49)] [.agg (encSt s2),.agg (encSo src),.agg (encGr .nil),.c (.int .i64 er)]:=by
 refine zp Tryz.func27 ?_
 have c0:=ownState_ok (G:=G) s hs
 refine zg [(1,{cs:=[(1,pc c0)]}),(2,{cs:=[(3,cb [176] c1)]})] [true] [(er != (0:Int))=true] (oN aS) ?_
 exact zr
theorem servesR_words (s:StT) (src:SoT) (a:AsT) (r:RcT) (s2:StT) (src2:SoT) (g:GrT) (hs:FitS s) (hsc:(a.scope==([]:List UInt8))=false) (c1:FnB Tryz.prog G 49 [deskI s src .nil] [.c (.ptr 0 0),.agg (encAs a)] [.c (.int .i64 0)] [(0,deskI s src r)])
  (c2:FnB Tryz.prog G 53 [deskI s src r] [.c (.ptr 0 0),.c (.str a.scope)] [.agg (encGr g),.c (.int .i64 0)] [(0,deskI s2 src2 r)]):Pur Tryz.prog G 27 [.agg (encSt s),.agg (encSo src),.agg (encAs a),.c (fnC 49)] [.agg (encSt s2),.agg (encSo src2),.agg (encGr g),.c (.int .i64 0)]:=by
 refine zp Tryz.func27 ?_
 have c0:=ownState_ok (G:=G) s hs
 refine zg [(1,{cs:=[(1,pc c0)]}),(2,{cs:=[(3,cb [176] c1)]}),(7,{cs:=[(3,cb [176] c2)]})] [false,false] [((0:Int) != (0:Int))=false,(a.scope==[])=false] ⟨rfl,(show (a.scope==[])=false from aS)⟩ ?_
 exact zr
theorem renew_words (s:StT) (src:SoT) (client key:Int) (words:List UInt8) {s2:StT} {src2:SoT} {g:GrT} {e:Int} (c:Pur Tryz.prog G 27 [.agg (encSt s),.agg (encSo src),.agg (encAs ⟨client,key,[],[],words⟩),.c (fnC 49)] [.agg (encSt s2),.agg (encSo src2),.agg (encGr g),.c (.int .i64 e)]) :
  Pur Tryz.prog G 22 [.agg (encSt s),.agg (encSo src),.c (.int .i64 client),.c (.int .i64 key),.c (.str words)] [.agg (encSt s2),.agg (encSo src2),.agg (encGr g),.c (.int .i64 e)]:=by
 refine zp Tryz.func22 ?_
 refine z0 [(1,{cs:=[(6,pc c)]})] [] ?_
 exact zr
def acc0 (n:Int) (w:WT):RcT:=tokR 5 104 (0+300) (cdR n 2 w) w.scope
def ref0 (n:Int) (w:WT):RcT:=tokR 6 105 (0+600) (cdR n 2 w) w.scope
def rnA (n:Int) (w:WT) (wd:List UInt8) (t:Int):RcT:=tokR 5 106 (t+300) (ref0 n w) wd
def rnR (n:Int) (w:WT) (wd:List UInt8) (t:Int):RcT:=tokR 6 (106+1) (t+600) (ref0 n w) wd
structure SpanF (n:Int) (w:WT) (wd:List UInt8) (t:Int) (F:List RcT):Prop where
 lv:∀ x∈F,t<x.til
 ix:ixF (findP 6 105) (F++[ref0 n w])=(F.length:Int)
 gd:(F++[ref0 n w]).getD F.length .nil=ref0 n w
 st:(F++[ref0 n w]).set F.length (usedR (ref0 n w))=F++[usedR (ref0 n w)]
 r5:(maxZ (mostT 5-(((F++[ref0 n w]).filter (roomP 5)).length:Int))==0)=false
 r6:(maxZ (mostT 6-(((F++[ref0 n w]).filter (roomP 6)).length:Int))==0)=false
 q5:(maxZ (mostT 5-(((F++[usedR (ref0 n w)]).filter (roomP 5)).length:Int))==0)=false
 q6:(maxZ (mostT 6-(((F++[usedR (ref0 n w),rnA n w wd t]).filter (roomP 6)).length:Int))==0)=false
 a5:(F++[usedR (ref0 n w)]).any (fun x=>x.key==106)=false
 a6:(F++[usedR (ref0 n w),rnA n w wd t]).any (fun x=>x.key==106+1)=false
 ix2:ixF (findP 6 105) (F++[usedR (ref0 n w),rnA n w wd t,rnR n w wd t])=(F.length:Int)
 gd2:(F++[usedR (ref0 n w),rnA n w wd t,rnR n w wd t]).getD F.length .nil=usedR (ref0 n w)
 ix5:ixF (findP 5 106) (F++[usedR (ref0 n w),rnA n w wd t,rnR n w wd t])=((F.length+1:Nat):Int)
 gd5:(F++[usedR (ref0 n w),rnA n w wd t,rnR n w wd t]).getD (F.length+1) .nil=rnA n w wd t
 rv:tokL 103 (revT 103 (F++[usedR (ref0 n w),rnA n w wd t,rnR n w wd t]))=[]
 no:ixF (findP 6 107) (revT 103 (F++[usedR (ref0 n w),rnA n w wd t,rnR n w wd t])) = -1
 len:F.length≤3
theorem live_yes {t:Int} {x:RcT} {l:List RcT} (h:t<x.til):liveT t (x::l)=x::liveT t l:=List.filter_cons_of_pos (decide_eq_true h)
theorem live_no {t:Int} {x:RcT} {l:List RcT} (h:x.til≤t):liveT t (x::l)=liveT t l:=List.filter_cons_of_neg (by show ¬ (decide (t<x.til))=true;simp;omega)
theorem span (n:Int) (w:WT) (wd:List UInt8) {t:Int} (h:t<600):∃ F,SpanF n w wd t F∧liveT t (redL n 2 w 0)=F++[ref0 n w]:=by
 have e1:t<(sesR 2).til:=by show t<900;omega
 have e4:t<(ref0 n w).til:=by show t<0+600;omega
 have e0:liveT t (redL n 2 w 0)=liveT t [sesR 2,usedR (cdR n 2 w),acc0 n w,ref0 n w]:=rfl
 rcases Int.lt_or_le t 40 with h1 | h1
 ·have e2:t<(usedR (cdR n 2 w)).til:=by show t<40;omega
  have e3:t<(acc0 n w).til:=by show t<0+300;omega
  refine ⟨[sesR 2,usedR (cdR n 2 w),acc0 n w],⟨fun x hx => ?_,(by kernel_rfl),(by kernel_rfl),(by kernel_rfl),(by kernel_rfl),(by kernel_rfl),(by kernel_rfl),(by kernel_rfl),(by kernel_rfl),(by kernel_rfl),(by kernel_rfl),(by kernel_rfl),(by kernel_rfl),(by kernel_rfl),(by kernel_rfl),(by kernel_rfl),by show 3≤3;decide⟩,by rw [e0,live_yes e1,live_yes e2,live_yes e3,live_yes e4];rfl⟩
  simp only [List.mem_cons,List.not_mem_nil,or_false] at hx
  rcases hx with rfl | rfl | rfl
  ·exact e1
  ·exact e2
  ·exact e3
 have e2:(usedR (cdR n 2 w)).til≤t:=by show 40≤t;omega
 rcases Int.lt_or_le t 300 with h2 | h2
 ·have e3:t<(acc0 n w).til:=by show t<0+300;omega
  refine ⟨[sesR 2,acc0 n w],⟨fun x hx => ?_,(by kernel_rfl),(by kernel_rfl),(by kernel_rfl),(by kernel_rfl),(by kernel_rfl),(by kernel_rfl),(by kernel_rfl),(by kernel_rfl),(by kernel_rfl),(by kernel_rfl),(by kernel_rfl),(by kernel_rfl),(by kernel_rfl),(by kernel_rfl),(by kernel_rfl),by show 2≤3;decide⟩,by rw [e0,live_yes e1,live_no e2,live_yes e3,live_yes e4];rfl⟩
  simp only [List.mem_cons,List.not_mem_nil,or_false] at hx
  rcases hx with rfl | rfl
  ·exact e1
  ·exact e3
 ·have e3:(acc0 n w).til≤t:=by show 0+300≤t;omega
  refine ⟨[sesR 2],⟨fun x hx => ?_,(by kernel_rfl),(by kernel_rfl),(by kernel_rfl),(by kernel_rfl),(by kernel_rfl),(by kernel_rfl),(by kernel_rfl),(by kernel_rfl),(by kernel_rfl),(by kernel_rfl),(by kernel_rfl),(by kernel_rfl),(by kernel_rfl),(by kernel_rfl),(by kernel_rfl),by show 1≤3;decide⟩,by rw [e0,live_yes e1,live_no e2,live_no e3,live_yes e4];rfl⟩
  simp only [List.mem_cons,List.not_mem_nil,or_false] at hx
  rcases hx with rfl
  exact e1
theorem live_F {t:Int} {F H:List RcT} (h:∀ x∈F,t<x.til) (hH:∀ x∈H,t<x.til):liveT t (F++H)=F++H:=live_all fun x hx=>(List.mem_append.1 hx).elim (h x) (hH x)
theorem rn_til (n:Int) (w:WT) (wd:List UInt8) {t:Int} (h0:0≤t) (ht:t<600):∀ x∈[usedR (ref0 n w),rnA n w wd t,rnR n w wd t],t<x.til:=fun x hx=>by
 simp only [List.mem_cons,List.not_mem_nil,or_false] at hx
 rcases hx with rfl | rfl | rfl
 ·show t<0+600;omega
 ·show t<t+300;omega
 ·show t<t+600;omega
theorem rn_issues (n t:Int) (w:WT) (wd:List UInt8) {F:List RcT} (h0:0≤t) (ht:t<600) (h:SpanF n w wd t F) (hl:liveT t (redL n 2 w 0)=F++[ref0 n w]) :
  FnB Tryz.prog G 53 [deskI (recS (redL n 2 w 0)) (srcN 106 t) (ref0 n w)] [.c (.ptr 0 0),.c (.str wd)] [.agg (encGr (grN 106 (106+1) (ref0 n w))),.c (.int .i64 0)] [(0,deskI (recS (F++[usedR (ref0 n w),rnA n w wd t,rnR n w wd t])) (srcN (106+1+1) t) (ref0 n w))]:=by
 have ht3:=rn_til n w wd h0 ht
 have lv0:liveT t (F++[usedR (ref0 n w)])=F++[usedR (ref0 n w)]:=live_F h.lv fun x hx=>ht3 x (by simp only [List.mem_cons,List.not_mem_nil,or_false] at hx ⊢;exact Or.inl hx)
 have lv1:liveT t (F++[usedR (ref0 n w),rnA n w wd t])=F++[usedR (ref0 n w),rnA n w wd t]:=live_F h.lv fun x hx=>ht3 x (by simp only [List.mem_cons,List.not_mem_nil,or_false] at hx ⊢;exact hx.elim Or.inl fun e=>Or.inr (Or.inl e))
 have hp1:putS (changeT (redL n 2 w 0) t F.length (usedR (ref0 n w))) t (rnA n w wd t)=(F++[usedR (ref0 n w),rnA n w wd t],0):=by
  unfold changeT
  rw [hl,h.st,putS_in (r:=rnA n w wd t) lv0 (by show (12:Int)≠0;decide) h.a5 (by show roomK _ t 5≠0;rw [roomK_of 5 lv0];intro e;have:=h.q5;rw [e] at this;cases this)]
  simp
 have hp2:putS (F++[usedR (ref0 n w),rnA n w wd t]) t (rnR n w wd t)=(F++[usedR (ref0 n w),rnA n w wd t,rnR n w wd t],0):=by
  rw [putS_in (r:=rnR n w wd t) lv1 (by show (12:Int)≠0;decide) h.a6 (by show roomK _ t 6≠0;rw [roomK_of 6 lv1];intro e;have:=h.q6;rw [e] at this;cases this)]
  simp
 have hF:=h.len
 exact issues_ok (recS (redL n 2 w 0)) (srcN 106 t) (ref0 n w) wd F.length (by show 4≤900;decide) ⟨h0,by show t≤1000000000;omega,by show (-1000000000000:Int)≤106;decide⟩ (by show (106:Int)<1073741824;decide)
  (by show (roomK (redL n 2 w 0) t 5==0)=false;unfold roomK;rw [hl];exact h.r5) (by show (roomK (redL n 2 w 0) t 6==0)=false;unfold roomK;rw [hl];exact h.r6) (by show ixF (findP 6 105) (liveT t (redL n 2 w 0))=_;rw [hl];exact h.ix) hp1 (by rw [List.length_append];show F.length+2≤900;omega) hp2
theorem rn_find (n t:Int) (w:WT) (wd:List UInt8) {F:List RcT} (h:SpanF n w wd t F) (hl:liveT t (redL n 2 w 0)=F++[ref0 n w]):findT (redL n 2 w 0) t 6 105=(ref0 n w,true):=by
 rw [findT_at (k:=F.length) (by rw [hl];exact h.ix),hl,h.gd]
theorem rn_none (n t:Int) (w:WT) (h0:600≤t) (h1:t<900):findT (redL n 2 w 0) t 6 105=(.nil,false):=by
 have e1:t<(sesR 2).til:=by show t<900;omega
 have e:liveT t (redL n 2 w 0)=[sesR 2]:=by
  have e0:liveT t (redL n 2 w 0)=liveT t [sesR 2,usedR (cdR n 2 w),acc0 n w,ref0 n w]:=rfl
  rw [e0,live_yes e1,live_no (show (usedR (cdR n 2 w)).til≤t by show 40≤t;omega),live_no (show (acc0 n w).til≤t by show 0+300≤t;omega),live_no (show (ref0 n w).til≤t by show 0+600≤t;omega)];rfl
 unfold findT
 rw [e,if_pos (show ixF (findP 6 105) [sesR 2]<0 from (show (-1:Int)<0 from by decide))]
def rnV (n:Int) (w:WT) (wd:List UInt8) (t:Int) (F:List RcT):List RcT:=F++[usedR (ref0 n w),rnA n w wd t,rnR n w wd t]
theorem rn_yes0 (n t:Int) (w:WT) {F:List RcT} (h0:0≤t) (ht:t<600) (h:SpanF n w w.scope t F) (hl:liveT t (redL n 2 w 0)=F++[ref0 n w]):Pur Tryz.prog G 22 [.agg (encSt (recS (redL n 2 w 0))),.agg (encSo (srcN 106 t)),.c (.int .i64 n),.c (.int .i64 105),.c (.str [])] [.agg (encSt (recS (rnV n w w.scope t F))),.agg (encSo (srcN (106+1+1) t)),.agg (encGr (grN 106 (106+1) (ref0 n w))),.c (.int .i64 0)]:=by
 have cc:=refresh_ok (G:=G) (recS (redL n 2 w 0)) (srcN 106 t) .nil ⟨n,105,[],[],[]⟩ (by show 4≤100000;decide) (rn_find n t w w.scope h hl) (by show (n != n)=false;simp) rfl rfl
 exact renew_words (recS (redL n 2 w 0)) (srcN 106 t) n 105 [] (servesR_ok (recS (redL n 2 w 0)) (srcN 106 t) ⟨n,105,[],[],[]⟩ (ref0 n w) (recS (rnV n w w.scope t F)) (srcN (106+1+1) t) (grN 106 (106+1) (ref0 n w)) (recS_fit _ (by show 4≤1000000;decide)) rfl cc (rn_issues n t w w.scope h0 ht h hl))
theorem rn_yes1 (n t:Int) (w:WT) (wd:List UInt8) {F:List RcT} (h0:0≤t) (ht:t<600) (hwd:(wd==([]:List UInt8))=false) (h:SpanF n w wd t F) (hl:liveT t (redL n 2 w 0)=F++[ref0 n w]) (cw:Pur Tryz.prog G 65 [.c (.str wd),.c (.str w.scope)] [.c (.bool true)]):Pur Tryz.prog G 22 [.agg (encSt (recS (redL n 2 w 0))),.agg (encSo (srcN 106 t)),.c (.int .i64 n),.c (.int .i64 105),.c (.str wd)] [.agg (encSt (recS (rnV n w wd t F))),.agg (encSo (srcN (106+1+1) t)),.agg (encGr (grN 106 (106+1) (ref0 n w))),.c (.int .i64 0)]:=by
 have cc:=refresh_words (G:=G) (recS (redL n 2 w 0)) (srcN 106 t) .nil ⟨n,105,[],[],wd⟩ (er:=0) (by show 4≤100000;decide) (rn_find n t w wd h hl) (by show (n != n)=false;simp) rfl (by show (!(wd==[]))=true;rw [hwd];rfl) cw (by simp)
 exact renew_words (recS (redL n 2 w 0)) (srcN 106 t) n 105 wd (servesR_words (recS (redL n 2 w 0)) (srcN 106 t) ⟨n,105,[],[],wd⟩ (ref0 n w) (recS (rnV n w wd t F)) (srcN (106+1+1) t) (grN 106 (106+1) (ref0 n w)) (recS_fit _ (by show 4≤1000000;decide)) hwd cc (rn_issues n t w wd h0 ht h hl))
theorem rn_scope (n t:Int) (w:WT) (wd:List UInt8) {F:List RcT} (hwd:(wd==([]:List UInt8))=false) (h:SpanF n w wd t F) (hl:liveT t (redL n 2 w 0)=F++[ref0 n w]) (cw:Pur Tryz.prog G 65 [.c (.str wd),.c (.str w.scope)] [.c (.bool false)]):Pur Tryz.prog G 22 [.agg (encSt (recS (redL n 2 w 0))),.agg (encSo (srcN 106 t)),.c (.int .i64 n),.c (.int .i64 105),.c (.str wd)] [.agg (encSt (recS (redL n 2 w 0))),.agg (encSo (srcN 106 t)),.agg (encGr .nil),.c (.int .i64 12)]:=by
 have cc:=refresh_words (G:=G) (recS (redL n 2 w 0)) (srcN 106 t) .nil ⟨n,105,[],[],wd⟩ (er:=12) (by show 4≤100000;decide) (rn_find n t w wd h hl) (by show (n != n)=false;simp) rfl (by show (!(wd==[]))=true;rw [hwd];rfl) cw (by simp)
 exact renew_words (recS (redL n 2 w 0)) (srcN 106 t) n 105 wd (servesR_er (recS (redL n 2 w 0)) (recS (redL n 2 w 0)) (srcN 106 t) ⟨n,105,[],[],wd⟩ (ref0 n w) (recS_fit _ (by show 4≤1000000;decide)) (by decide) cc)
theorem rn_no (n t j:Int) (w:WT) (wd:List UInt8) (h0:0≤t) (ht:t<900) (hj:600≤t∨n≠j):Pur Tryz.prog G 22 [.agg (encSt (recS (redL n 2 w 0))),.agg (encSo (srcN 106 t)),.c (.int .i64 j),.c (.int .i64 105),.c (.str wd)] [.agg (encSt (recS (redL n 2 w 0))),.agg (encSo (srcN 106 t)),.agg (encGr .nil),.c (.int .i64 13)]:=by
 have cc:FnB Tryz.prog G 49 [deskI (recS (redL n 2 w 0)) (srcN 106 t) .nil] [.c (.ptr 0 0),.agg (encAs ⟨j,105,[],[],wd⟩)] [.c (.int .i64 13)] [(0,deskI (recS (redL n 2 w 0)) (srcN 106 t) .nil)]:=by
  rcases Int.lt_or_le t 600 with h6 | h6
  ·obtain ⟨F,h,hl⟩:=span n w wd h6
   exact refresh_no (recS (redL n 2 w 0)) (srcN 106 t) .nil ⟨j,105,[],[],wd⟩ (by show 4≤100000;decide) (rn_find n t w wd h hl) (Or.inr (by show (n != j)=true;simp;omega))
  ·exact refresh_no (recS (redL n 2 w 0)) (srcN 106 t) .nil ⟨j,105,[],[],wd⟩ (by show 4≤100000;decide) (rn_none n t w h6 ht) (Or.inl rfl)
 exact renew_words (recS (redL n 2 w 0)) (srcN 106 t) j 105 wd (servesR_er (recS (redL n 2 w 0)) (recS (redL n 2 w 0)) (srcN 106 t) ⟨j,105,[],[],wd⟩ .nil (recS_fit _ (by show 4≤1000000;decide)) (by decide) cc)
theorem rnV_live (n t:Int) (w:WT) (wd:List UInt8) {F:List RcT} (h0:0≤t) (ht:t<600) (h:SpanF n w wd t F):liveT t (rnV n w wd t F)=rnV n w wd t F:=live_F h.lv (rn_til n w wd h0 ht)
theorem rnV_len (n t:Int) (w:WT) (wd:List UInt8) {F:List RcT} (h:SpanF n w wd t F):(rnV n w wd t F).length≤6:=by
 have:=h.len
 unfold rnV;rw [List.length_append];show F.length+3≤6;omega
theorem rev_len (d:Int) (l:List RcT):(revT d l).length≤l.length:=List.length_filter_le _ _
theorem rn_again (n t:Int) (w:WT) (wd:List UInt8) {F:List RcT} (h0:0≤t) (ht:t<600) (h:SpanF n w wd t F):Pur Tryz.prog G 22 [.agg (encSt (recS (rnV n w wd t F))),.agg (encSo (srcN (106+1+1) t)),.c (.int .i64 n),.c (.int .i64 105),.c (.str [])] [.agg (encSt (recS (revT 103 (rnV n w wd t F)))),.agg (encSo (srcN (106+1+1) t)),.agg (encGr .nil),.c (.int .i64 13)]:=by
 have lv:=rnV_live n t w wd h0 ht h
 have ll:=rnV_len n t w wd h
 have hf:findT (rnV n w wd t F) t 6 105=(usedR (ref0 n w),true):=by rw [findT_at (k:=F.length) (by rw [lv];exact h.ix2),lv];exact congrArg (fun x=>(x,true)) h.gd2
 have cc:=refresh_used (G:=G) (recS (rnV n w wd t F)) (srcN (106+1+1) t) .nil ⟨n,105,[],[],[]⟩ (by show (rnV n w wd t F).length≤100000;omega) hf (by show (n != n)=false;simp) rfl
 exact renew_words (recS (rnV n w wd t F)) (srcN (106+1+1) t) n 105 [] (servesR_er (recS (rnV n w wd t F)) (recS (revT 103 (rnV n w wd t F))) (srcN (106+1+1) t) ⟨n,105,[],[],[]⟩ .nil (recS_fit _ (by omega)) (by decide) cc)
theorem rn_gone (n t:Int) (w:WT) (wd:List UInt8) {F:List RcT} (h0:0≤t) (ht:t<600) (h:SpanF n w wd t F):Pur Tryz.prog G 22 [.agg (encSt (recS (revT 103 (rnV n w wd t F)))),.agg (encSo (srcN (106+1+1) t)),.c (.int .i64 n),.c (.int .i64 107),.c (.str [])] [.agg (encSt (recS (revT 103 (rnV n w wd t F)))),.agg (encSo (srcN (106+1+1) t)),.agg (encGr .nil),.c (.int .i64 13)]:=by
 have ll:=rnV_len n t w wd h
 have l2:=rev_len 103 (rnV n w wd t F)
 have lv:liveT t (revT 103 (rnV n w wd t F))=revT 103 (rnV n w wd t F):=live_all fun x hx=>by
  have hm:=(List.mem_filter.1 hx).1
  exact (List.mem_append.1 hm).elim (h.lv x) (rn_til n w wd h0 ht x)
 have hf:findT (revT 103 (rnV n w wd t F)) t 6 107=(.nil,false):=by
  unfold findT;rw [lv,if_pos (show ixF (findP 6 107) (revT 103 (rnV n w wd t F))<0 by rw [show ixF (findP 6 107) (revT 103 (rnV n w wd t F)) = -1 from h.no];decide)]
 have cc:=refresh_no (G:=G) (recS (revT 103 (rnV n w wd t F))) (srcN (106+1+1) t) .nil ⟨n,107,[],[],[]⟩ (by show (revT 103 (rnV n w wd t F)).length≤100000;omega) hf (Or.inl rfl)
 exact renew_words (recS (revT 103 (rnV n w wd t F))) (srcN (106+1+1) t) n 107 [] (servesR_er (recS (revT 103 (rnV n w wd t F))) (recS (revT 103 (rnV n w wd t F))) (srcN (106+1+1) t) ⟨n,107,[],[],[]⟩ .nil (recS_fit _ (by omega)) (by decide) cc)
def wordsW:List (List UInt8):=[[],[111,112,101,110,105,100],[97],[111,112,101,110,105,100,32,111,112,101,110,105,100],[112,114,111,102,105,108,101]]
theorem wiQ:∀ q,2≤q→q<5→wiT (wordsW.getD q []) [111,112,101,110,105,100]=false
 | 0,h,_=>by omega
 | 1,h,_=>by omega
 | 2,_,_=>by kernel_rfl
 | 3,_,_=>by kernel_rfl
 | 4,_,_=>by kernel_rfl
 | q+5,_,h=>by omega
theorem wdQ:∀ q,1≤q→q<5→(wordsW.getD q []==([]:List UInt8))=false
 | 0,h,_=>by omega
 | 1,_,_=>by kernel_rfl
 | 2,_,_=>by kernel_rfl
 | 3,_,_=>by kernel_rfl
 | 4,_,_=>by kernel_rfl
 | q+5,_,h=>by omega
theorem lenQ:∀ q,(wordsW.getD q []).length<1000000000
 | 0=>by decide
 | 1=>by decide
 | 2=>by decide
 | 3=>by decide
 | 4=>by decide
 | q+5=>by show 0<1000000000; decide
theorem issueRenews_ok {m:Int} (n later scope mm:Int):Pur Tryz.prog (Gn m) 5 [.c (.int .i64 n),.c (.int .i64 later),.c (.int .i64 scope),.c (.int .i64 mm)] [.c (.bool true)]:=by
 refine zp Tryz.func5 ?_
 have c1:=known22_ok (G:=Gn m)
 have c2:=within22_ok (G:=Gn m) n 3 dC dC
 have h2:=withT_rng n 3 dC
 generalize withT n 3=k0 at c2 h2
 obtain ⟨k,rfl⟩:∃ k:Nat,k0=(k:Int):=⟨k0.toNat,by omega⟩
 have hk:k<3:=by omega
 have c3:=within22_ok (G:=Gn m) mm 3 dC dC
 have h3:=withT_rng mm 3 dC
 generalize withT mm 3=j0 at c3 h3
 have c4:=granted_ok (G:=Gn m) (1+(k:Int)) 2 k 1 oM hk rfl dC
 have c5:=within22_ok (G:=Gn m) later 700 dC dC
 have h5:=withT_rng later 700 dC
 generalize withT later 700=t at c5 h5
 have c6:=within22_ok (G:=Gn m) scope 5 dC dC
 have h6:=withT_rng scope 5 dC
 generalize withT scope 5=q0 at c6 h6
 obtain ⟨q,rfl⟩:∃ q:Nat,q0=(q:Int):=⟨q0.toNat,by omega⟩
 have hq5:q<5:=by omega
 have hsc:(rightT (1+(k:Int))).scope=[111,112,101,110,105,100]:=rfl
 generalize rightT (1+(k:Int))=w at *
 have e0:EqvD (.c (.sl 1 5 (fun i j=>nthD [.str [],.str [111,112,101,110,105,100],.str [97],.str [111,112,101,110,105,100,32,111,112,101,110,105,100],.str [112,114,111,102,105,108,101]] (i*1+j)))) (.c (.sl 1 5 (strsF wordsW))):=lit_D kR
 have sm:=same20G_ok (G:=Gn m) (recS (redL (1+(k:Int)) 2 w 0)) (recS (redL (1+(k:Int)) 2 w 0)) (recS_fit _ (by show 4≤1000000;decide))
 rw [sameS_self] at sm
 have u1:inR .i64 (1+j0):=i6
 by_cases hA:600≤t∨(1+(k:Int))≠1+j0
 ·have r1:=rn_no (G:=Gn m) (1+(k:Int)) t (1+j0) w (wordsW.getD q []) h5.1 oM hA
  have tA:(bif 1+j0 != 1+(k:Int) then true else decide (t≥600))=true:=by
   rcases hA with h | h
   ·rw [show decide (t≥600)=true from decide_eq_true h];simp
   ·rw [show (1+j0 != 1+(k:Int))=true from by simp;omega];rfl
  refine zg [(6,{cs:=[(2,pc c6)],fm:=[(0,.c (.sl 1 5 (strsF wordsW)))]}),(1,{cs:=[(0,pc c1)]}),(3,{cs:=[(1,pc c2),(4,pc c3)]}),(4,{cs:=[(1,pc c4)]}),(5,{cs:=[(1,pc c5)]}),(7,{cs:=[(6,pc r1)]}),(14,{cs:=[(6,pc sm)]})] [false,true,true] [(!true)=false,inR .i64 (1+(k:Int)),inR .i64 (1+j0),EqvI (.c (.sl 1 (5:Nat) fun i j=>nthD [.str [],.str [(111:UInt8),112,101,110,105,100],.str [(97:UInt8)],.str [(111:UInt8),112,101,110,105,100,32,111,112,101,110,105,100],.str [(112:UInt8),114,111,102,105,108,101]] (i*(1:Nat)+j))) (.c (.sl 1 (5:Nat) (strsF wordsW))),EqvD (.c (.sl 1 (5:Nat) fun i j=>nthD [.str [],.str [(111:UInt8),112,101,110,105,100],.str [(97:UInt8)],.str [(111:UInt8),112,101,110,105,100,32,111,112,101,110,105,100],.str [(112:UInt8),114,111,102,105,108,101]] (i*(1:Nat)+j))) (.c (.sl 1 (5:Nat) (strsF wordsW))),(0:Int)≤(q:Int)∧(q:Int)<(↑(5:Nat):Int),(bif (1:Int)+j0 != (1:Int)+(k:Int) then true else decide (t≥(600:Int)))=true,(bif (13:Int) != (13:Int) then true else (13:Int) != (0:Int))=true] ⟨rfl,i6,i6,fun _ _=>trivial,aS,oM,aS,rfl⟩ ?_
  exact zS [.c (.bool (bif bif bif (13:Int)==(13:Int) then true else false then (srcN (106:Int) t).n==(srcN (106:Int) (0:Int)).n&&((srcN (106:Int) t).conn==(srcN (106:Int) (0:Int)).conn&&((srcN (106:Int) t).now==t&&true)) else false then GrT.nil.acc==(0:Int)&&(GrT.nil.ref==(0:Int)&&(GrT.nil.r.kind==(0:Int)&&(GrT.nil.r.key==(0:Int)&&(GrT.nil.r.til==(0:Int)&&(GrT.nil.r.used==false&&(GrT.nil.r.client==(0:Int)&&(GrT.nil.r.user==(0:Int)&&(GrT.nil.r.sess==(0:Int)&&(GrT.nil.r.fam==(0:Int)&&(GrT.nil.r.w.ty==[]&&(GrT.nil.r.w.redir==[]&&(GrT.nil.r.w.scope==[]&&(GrT.nil.r.w.state==[]&&(GrT.nil.r.w.nonce==[]&&(GrT.nil.r.w.chal==[]&&(GrT.nil.r.w.meth==[]&&true))))))&&true))))))))&&true)) else false))] (by show [V1.c (Cell.bool _)]=_;simp [srcN,grN,GrT.nil,RcT.nil,WT.nil,ref0,rnA,tokR,cdR,hsc])
 ·have ht:t<600:=by omega
  obtain rfl:j0=(k:Int):=by omega
  have tA:(bif 1+(k:Int) != 1+(k:Int) then true else decide (t≥600))=false:=by
   rw [show decide (t≥600)=false from decide_eq_false oM];simp
  have cw:=scWithin_ok (Gn_len m) (wordsW.getD q []) w.scope (lenQ q) (by rw [hsc];decide)
  rw [hsc] at cw
  rcases Nat.lt_or_ge q 2 with h2q | h2q
  ·obtain rfl | rfl:q=0∨q=1:=by omega
   ·obtain ⟨F,h,hl⟩:=span (1+(k:Int)) w w.scope ht
    have r1:=rn_yes0 (G:=Gn m) (1+(k:Int)) t w h5.1 ht h hl
    have r2:=rn_again (G:=Gn m) (1+(k:Int)) t w w.scope h5.1 ht h
    have r3:=rn_gone (G:=Gn m) (1+(k:Int)) t w w.scope h5.1 ht h
    have lv:=rnV_live (1+(k:Int)) t w w.scope h5.1 ht h
    have ll:=rnV_len (1+(k:Int)) t w w.scope h
    have l2:=rev_len 103 (rnV (1+(k:Int)) w w.scope t F)
    have f1:=find19_ok (G:=Gn m) (rnV (1+(k:Int)) w w.scope t F) t 5 106 oM
    rw [show findT (rnV (1+(k:Int)) w w.scope t F) t 5 106=(rnA (1+(k:Int)) w w.scope t,true) from by rw [findT_at (k:=F.length+1) (by rw [lv];exact h.ix5),lv];exact congrArg (fun x=>(x,true)) h.gd5] at f1
    have tk:=tokens_ok (G:=Gn m) (recS (revT 103 (rnV (1+(k:Int)) w w.scope t F))) 103 (by show (revT 103 (rnV (1+(k:Int)) w w.scope t F)).length≤100000;omega)
    rw [show tokL 103 (recS (revT 103 (rnV (1+(k:Int)) w w.scope t F))).recs=[] from h.rv] at tk
    clear cw lv ll l2 h hl
    generalize rnV (1+(k:Int)) w w.scope t F=V at *
    refine zg [(6,{cs:=[(2,pc c6)],fm:=[(0,.c (.sl 1 5 (strsF wordsW)))]}),(1,{cs:=[(0,pc c1)]}),(3,{cs:=[(1,pc c2),(4,pc c3)]}),(4,{cs:=[(1,pc c4)]}),(5,{cs:=[(1,pc c5)]}),(7,{cs:=[(6,pc r1)]}),(11,{cs:=[(1,pc c6)]}),(15,{cs:=[(6,pc f1)]}),(16,{cs:=[(5,pc r2)]}),(17,{cs:=[(5,pc r3)]}),(18,{cs:=[(55,pc tk)]})] [false,false,false,false] [(!true)=false,inR .i64 (1+(k:Int)),inR .i64 (1+(k:Int)),EqvI (.c (.sl 1 (5:Nat) fun i j=>nthD [.str [],.str [(111:UInt8),112,101,110,105,100],.str [(97:UInt8)],.str [(111:UInt8),112,101,110,105,100,32,111,112,101,110,105,100],.str [(112:UInt8),114,111,102,105,108,101]] (i*(1:Nat)+j))) (.c (.sl 1 (5:Nat) (strsF wordsW))),EqvD (.c (.sl 1 (5:Nat) fun i j=>nthD [.str [],.str [(111:UInt8),112,101,110,105,100],.str [(97:UInt8)],.str [(111:UInt8),112,101,110,105,100,32,111,112,101,110,105,100],.str [(112:UInt8),114,111,102,105,108,101]] (i*(1:Nat)+j))) (.c (.sl 1 (5:Nat) (strsF wordsW))),(0:Int)≤(↑(0:Nat):Int)∧(↑(0:Nat):Int)<(↑(5:Nat):Int),(bif (1:Int)+(k:Int) != (1:Int)+(k:Int) then true else decide (t≥(600:Int)))=false,decide ((↑(0:Nat):Int)>(1:Int))=false,(bif (0:Int) != (0:Int) then true else (0:Int) != (0:Int))=false] ⟨rfl,i6,i6,fun _ _=>trivial,aS,oM,aS,rfl,rfl⟩ ?_
    exact zS [.c (.bool (bif bif bif bif bif bif bif bif bif bif bif true then (ref0 ((1:Int)+(↑k:Int)) w).client==(1:Int)+(↑k:Int) else false then (ref0 ((1:Int)+(↑k:Int)) w).user==(2:Int) else false then (ref0 ((1:Int)+(↑k:Int)) w).fam==(103:Int) else false then w.scope==[(111:UInt8),112,101,110,105,100] else false then (grN (106:Int) ((106:Int)+(1:Int)) (ref0 ((1:Int)+(↑k:Int)) w)).r.key==(grN (104:Int) (105:Int) (cdR ((1:Int)+(↑k:Int)) (2:Int) w)).ref else false then !(grN (106:Int) ((106:Int)+(1:Int)) (ref0 ((1:Int)+(↑k:Int)) w)).r.used else false then (13:Int)==(13:Int) else false then GrT.nil.acc==(0:Int)&&(GrT.nil.ref==(0:Int)&&(GrT.nil.r.kind==(0:Int)&&(GrT.nil.r.key==(0:Int)&&(GrT.nil.r.til==(0:Int)&&(GrT.nil.r.used==false&&(GrT.nil.r.client==(0:Int)&&(GrT.nil.r.user==(0:Int)&&(GrT.nil.r.sess==(0:Int)&&(GrT.nil.r.fam==(0:Int)&&(GrT.nil.r.w.ty==[]&&(GrT.nil.r.w.redir==[]&&(GrT.nil.r.w.scope==[]&&(GrT.nil.r.w.state==[]&&(GrT.nil.r.w.nonce==[]&&(GrT.nil.r.w.chal==[]&&(GrT.nil.r.w.meth==[]&&true))))))&&true))))))))&&true)) else false then (srcN ((106:Int)+(1:Int)+(1:Int)) t).n==(srcN ((106:Int)+(1:Int)+(1:Int)) t).n&&((srcN ((106:Int)+(1:Int)+(1:Int)) t).conn==(srcN ((106:Int)+(1:Int)+(1:Int)) t).conn&&((srcN ((106:Int)+(1:Int)+(1:Int)) t).now==(srcN ((106:Int)+(1:Int)+(1:Int)) t).now&&true)) else false then (↑([]:List UInt8).length:Int)==(0:Int) else false then (13:Int)==(13:Int) else false))] (by show [V1.c (Cell.bool _)]=_;simp [srcN,grN,GrT.nil,RcT.nil,WT.nil,ref0,rnA,tokR,cdR,hsc])
   ·obtain ⟨F,h,hl⟩:=span (1+(k:Int)) w [111,112,101,110,105,100] ht
    rw [show wiT (wordsW.getD 1 []) [111,112,101,110,105,100]=true from by kernel_rfl,← hsc] at cw
    have r1:=rn_yes1 (G:=Gn m) (1+(k:Int)) t w [111,112,101,110,105,100] h5.1 ht dC h hl cw
    have r2:=rn_again (G:=Gn m) (1+(k:Int)) t w [111,112,101,110,105,100] h5.1 ht h
    have r3:=rn_gone (G:=Gn m) (1+(k:Int)) t w [111,112,101,110,105,100] h5.1 ht h
    have lv:=rnV_live (1+(k:Int)) t w [111,112,101,110,105,100] h5.1 ht h
    have ll:=rnV_len (1+(k:Int)) t w [111,112,101,110,105,100] h
    have l2:=rev_len 103 (rnV (1+(k:Int)) w [111,112,101,110,105,100] t F)
    have f1:=find19_ok (G:=Gn m) (rnV (1+(k:Int)) w [111,112,101,110,105,100] t F) t 5 106 oM
    rw [show findT (rnV (1+(k:Int)) w [111,112,101,110,105,100] t F) t 5 106=(rnA (1+(k:Int)) w [111,112,101,110,105,100] t,true) from by rw [findT_at (k:=F.length+1) (by rw [lv];exact h.ix5),lv];exact congrArg (fun x=>(x,true)) h.gd5] at f1
    have tk:=tokens_ok (G:=Gn m) (recS (revT 103 (rnV (1+(k:Int)) w [111,112,101,110,105,100] t F))) 103 (by show (revT 103 (rnV (1+(k:Int)) w [111,112,101,110,105,100] t F)).length≤100000;omega)
    rw [show tokL 103 (recS (revT 103 (rnV (1+(k:Int)) w [111,112,101,110,105,100] t F))).recs=[] from h.rv] at tk
    clear cw lv ll l2 h hl
    generalize rnV (1+(k:Int)) w [111,112,101,110,105,100] t F=V at *
    refine zg [(6,{cs:=[(2,pc c6)],fm:=[(0,.c (.sl 1 5 (strsF wordsW)))]}),(1,{cs:=[(0,pc c1)]}),(3,{cs:=[(1,pc c2),(4,pc c3)]}),(4,{cs:=[(1,pc c4)]}),(5,{cs:=[(1,pc c5)]}),(7,{cs:=[(6,pc r1)]}),(11,{cs:=[(1,pc c6)]}),(15,{cs:=[(6,pc f1)]}),(16,{cs:=[(5,pc r2)]}),(17,{cs:=[(5,pc r3)]}),(18,{cs:=[(55,pc tk)]})] [false,false,false,false] [(!true)=false,inR .i64 (1+(k:Int)),inR .i64 (1+(k:Int)),EqvI (.c (.sl 1 (5:Nat) fun i j=>nthD [.str [],.str [(111:UInt8),112,101,110,105,100],.str [(97:UInt8)],.str [(111:UInt8),112,101,110,105,100,32,111,112,101,110,105,100],.str [(112:UInt8),114,111,102,105,108,101]] (i*(1:Nat)+j))) (.c (.sl 1 (5:Nat) (strsF wordsW))),EqvD (.c (.sl 1 (5:Nat) fun i j=>nthD [.str [],.str [(111:UInt8),112,101,110,105,100],.str [(97:UInt8)],.str [(111:UInt8),112,101,110,105,100,32,111,112,101,110,105,100],.str [(112:UInt8),114,111,102,105,108,101]] (i*(1:Nat)+j))) (.c (.sl 1 (5:Nat) (strsF wordsW))),(0:Int)≤(↑(1:Nat):Int)∧(↑(1:Nat):Int)<(↑(5:Nat):Int),(bif (1:Int)+(k:Int) != (1:Int)+(k:Int) then true else decide (t≥(600:Int)))=false,decide ((↑(1:Nat):Int)>(1:Int))=false,(bif (0:Int) != (0:Int) then true else (0:Int) != (0:Int))=false] ⟨rfl,i6,i6,fun _ _=>trivial,aS,oM,aS,rfl,rfl⟩ ?_
    exact zS [.c (.bool (bif bif bif bif bif bif bif bif bif bif bif true then (ref0 ((1:Int)+(↑k:Int)) w).client==(1:Int)+(↑k:Int) else false then (ref0 ((1:Int)+(↑k:Int)) w).user==(2:Int) else false then (ref0 ((1:Int)+(↑k:Int)) w).fam==(103:Int) else false then [(111:UInt8),112,101,110,105,100]==[(111:UInt8),112,101,110,105,100] else false then (grN (106:Int) ((106:Int)+(1:Int)) (ref0 ((1:Int)+(↑k:Int)) w)).r.key==(grN (104:Int) (105:Int) (cdR ((1:Int)+(↑k:Int)) (2:Int) w)).ref else false then !(grN (106:Int) ((106:Int)+(1:Int)) (ref0 ((1:Int)+(↑k:Int)) w)).r.used else false then (13:Int)==(13:Int) else false then GrT.nil.acc==(0:Int)&&(GrT.nil.ref==(0:Int)&&(GrT.nil.r.kind==(0:Int)&&(GrT.nil.r.key==(0:Int)&&(GrT.nil.r.til==(0:Int)&&(GrT.nil.r.used==false&&(GrT.nil.r.client==(0:Int)&&(GrT.nil.r.user==(0:Int)&&(GrT.nil.r.sess==(0:Int)&&(GrT.nil.r.fam==(0:Int)&&(GrT.nil.r.w.ty==[]&&(GrT.nil.r.w.redir==[]&&(GrT.nil.r.w.scope==[]&&(GrT.nil.r.w.state==[]&&(GrT.nil.r.w.nonce==[]&&(GrT.nil.r.w.chal==[]&&(GrT.nil.r.w.meth==[]&&true))))))&&true))))))))&&true)) else false then (srcN ((106:Int)+(1:Int)+(1:Int)) t).n==(srcN ((106:Int)+(1:Int)+(1:Int)) t).n&&((srcN ((106:Int)+(1:Int)+(1:Int)) t).conn==(srcN ((106:Int)+(1:Int)+(1:Int)) t).conn&&((srcN ((106:Int)+(1:Int)+(1:Int)) t).now==(srcN ((106:Int)+(1:Int)+(1:Int)) t).now&&true)) else false then (↑([]:List UInt8).length:Int)==(0:Int) else false then (13:Int)==(13:Int) else false))] (by show [V1.c (Cell.bool _)]=_;simp [srcN,grN,GrT.nil,RcT.nil,WT.nil,ref0,rnA,tokR,cdR,hsc])
  ·obtain ⟨F,h,hl⟩:=span (1+(k:Int)) w (wordsW.getD q []) ht
   rw [wiQ q h2q hq5,← hsc] at cw
   have r1:=rn_scope (G:=Gn m) (1+(k:Int)) t w (wordsW.getD q []) (wdQ q oM hq5) h hl cw
   have tB:decide ((q:Int)>1)=true:=decide_eq_true oM
   clear cw
   refine zg [(6,{cs:=[(2,pc c6)],fm:=[(0,.c (.sl 1 5 (strsF wordsW)))]}),(1,{cs:=[(0,pc c1)]}),(3,{cs:=[(1,pc c2),(4,pc c3)]}),(4,{cs:=[(1,pc c4)]}),(5,{cs:=[(1,pc c5)]}),(7,{cs:=[(6,pc r1)]}),(11,{cs:=[(1,pc c6)]}),(14,{cs:=[(6,pc sm)]})] [false,false,true,true] [(!true)=false,inR .i64 (1+(k:Int)),inR .i64 (1+(k:Int)),EqvI (.c (.sl 1 (5:Nat) fun i j=>nthD [.str [],.str [(111:UInt8),112,101,110,105,100],.str [(97:UInt8)],.str [(111:UInt8),112,101,110,105,100,32,111,112,101,110,105,100],.str [(112:UInt8),114,111,102,105,108,101]] (i*(1:Nat)+j))) (.c (.sl 1 (5:Nat) (strsF wordsW))),EqvD (.c (.sl 1 (5:Nat) fun i j=>nthD [.str [],.str [(111:UInt8),112,101,110,105,100],.str [(97:UInt8)],.str [(111:UInt8),112,101,110,105,100,32,111,112,101,110,105,100],.str [(112:UInt8),114,111,102,105,108,101]] (i*(1:Nat)+j))) (.c (.sl 1 (5:Nat) (strsF wordsW))),(0:Int)≤(q:Int)∧(q:Int)<(↑(5:Nat):Int),(bif (1:Int)+(k:Int) != (1:Int)+(k:Int) then true else decide (t≥(600:Int)))=false,decide ((q:Int)>1)=true,(bif (12:Int) != (12:Int) then true else (12:Int) != (0:Int))=true] ⟨rfl,i6,i6,fun _ _=>trivial,aS,oM,aS,aS,rfl⟩ ?_
   exact zS [.c (.bool (bif bif bif (12:Int)==(12:Int) then true else false then (srcN (106:Int) t).n==(srcN (106:Int) (0:Int)).n&&((srcN (106:Int) t).conn==(srcN (106:Int) (0:Int)).conn&&((srcN (106:Int) t).now==t&&true)) else false then GrT.nil.acc==(0:Int)&&(GrT.nil.ref==(0:Int)&&(GrT.nil.r.kind==(0:Int)&&(GrT.nil.r.key==(0:Int)&&(GrT.nil.r.til==(0:Int)&&(GrT.nil.r.used==false&&(GrT.nil.r.client==(0:Int)&&(GrT.nil.r.user==(0:Int)&&(GrT.nil.r.sess==(0:Int)&&(GrT.nil.r.fam==(0:Int)&&(GrT.nil.r.w.ty==[]&&(GrT.nil.r.w.redir==[]&&(GrT.nil.r.w.scope==[]&&(GrT.nil.r.w.state==[]&&(GrT.nil.r.w.nonce==[]&&(GrT.nil.r.w.chal==[]&&(GrT.nil.r.w.meth==[]&&true))))))&&true))))))))&&true)) else false))] (by show [V1.c (Cell.bool _)]=_;simp [srcN,grN,GrT.nil,RcT.nil,WT.nil,ref0,rnA,tokR,cdR,hsc])
def gE (n u:Int) (w:WT):Nat→RcT
 | 0=>cdR n u w
 | i+1=>refF n u w.scope false i
def gF (n u:Int) (w:WT) (i:Nat):GrT:=grN (104+2*(i:Int)) (105+2*(i:Int)) (gE n u w i)
theorem renewT (n u:Int) (w:WT) (i:Nat) (hi:i<11):Pur Tryz.prog G 22 [.agg (encSt (recS (fullR n u w i))),.agg (encSo (srcN (106+2*(i:Int)) 0)),.c (.int .i64 n),.c (.int .i64 (105+2*(i:Int))),.c (.str [])] [.agg (encSt (recS (fullR n u w (i+1)))),.agg (encSo (srcN (106+2*((i+1:Nat):Int)) 0)),.agg (encGr (gF n u w (i+1))),.c (.int .i64 0)]:=by
 have c:=renewS (G:=G) n u w i hi
 rw [show 106+2*(i:Int)+1+1=106+2*((i+1:Nat):Int) by omega,show grN (106+2*(i:Int)) (106+2*(i:Int)+1) (refF n u w.scope false i)=gF n u w (i+1) from by unfold gF gE;congr 1<;>omega] at c
 exact c
theorem issueFull_ok {m:Int} (n nonces:Int):Pur Tryz.prog (Gn m) 6 [.c (.int .i64 n),.c (.int .i64 nonces)] [.c (.bool true)]:=by
 refine zp Tryz.func6 ?_
 have c1:=known22_ok (G:=Gn m)
 have c2:=within22_ok (G:=Gn m) n 3 dC dC
 have h2:=withT_rng n 3 dC
 generalize withT n 3=k0 at c2 h2
 obtain ⟨k,rfl⟩:∃ k:Nat,k0=(k:Int):=⟨k0.toNat,by omega⟩
 have hk:k<3:=by omega
 have c3:=within22_ok (G:=Gn m) nonces 4 dC dC
 have h3:=withT_rng nonces 4 dC
 generalize withT nonces 4=q at c3 h3
 have c4:=coded_ok (G:=Gn m) (1+(k:Int)) 1 k 0 oM hk rfl dC
 have c5:=right_ok (G:=Gn m) (1+(k:Int)) oM oM
 have c6:=ver_ok (G:=Gn m) (1+(k:Int))
 have ch:=holdsV (G:=Gn m) (1+(k:Int)) (1+(k:Int))
 rw [show (withT (1+(k:Int)) 3==withT (1+(k:Int)) 3)=true from by simp] at ch
 have c7:=granted_ok (G:=Gn m) (1+(k:Int)) 1 k 0 oM hk rfl dC
 rw [full0] at c7
 generalize verT (1+(k:Int))=vv at *
 generalize rightT (1+(k:Int))=w at *
 have sm:=same20G_ok (G:=Gn m) (codedS (1+(k:Int)) 1 w) (codedS (1+(k:Int)) 1 w) (recS_fit (codedL (1+(k:Int)) 1 w) (by show 2≤1000000;decide))
 rw [sameS_self] at sm
 have sf:=same20G_ok (G:=Gn m) (recS (fullR (1+(k:Int)) 1 w 11)) (recS (fullR (1+(k:Int)) 1 w 11)) (recS_fit _ (by rw [full_len];decide))
 rw [sameS_self] at sf
 have rf:=renewF (G:=Gn m) (1+(k:Int)) 1 w
 have rl:=renewL (G:=Gn m) (1+(k:Int)) 1 w
 have ff:=find19_ok (G:=Gn m) (fullR (1+(k:Int)) 1 w 11) 0 6 127 (by rw [full_len];decide)
 rw [full_find] at ff
 rw [show (128:Int)=106+2*((11:Nat):Int) from rfl,show (127:Int)=105+2*((11:Nat):Int) from rfl] at rf
 rw [show (128:Int)=106+2*((11:Nat):Int) from rfl,show (127:Int)=105+2*((11:Nat):Int) from rfl] at rl
 rw [show (127:Int)=105+2*((11:Nat):Int) from rfl] at ff
 have tq:(bif !((16:Int)==(0:Int))==false then true else bif !false then bif bif (16:Int) != (16:Int) then true else !true then true else !((srcN ((1073741824:Int)-q+(1:Int)) (0:Int)).n==(1073741824:Int)-q+(1:Int)&&((srcN ((1073741824:Int)-q+(1:Int)) (0:Int)).conn==src4.conn&&((srcN ((1073741824:Int)-q+(1:Int)) (0:Int)).now==src4.now&&true))) else false)=false:=by simp [srcN,src4]
 rcases Int.lt_or_le q 2 with hq | hq
 ·have r1:=few_no (G:=Gn m) (1+(k:Int)) 1 (1073741824-q+1) w vv oM ch
  have t1:EqvD (.c (.bool (decide (q≥2)))) (.c (.bool false)):=eqvD_of (by rw [show decide (q≥2)=false from decide_eq_false oM])
  clear ch
  refine zg [(8,{cs:=[(1,pc c3)],fm:=[(2,.c (.bool false))]}),(1,{cs:=[(0,pc c1)]}),(3,{cs:=[(1,pc c2)]}),(4,{cs:=[(1,pc c4)]}),(6,{cs:=[(1,pc c3)]}),(7,{cs:=[(5,pc c5),(8,pc c6),(9,pc r1)]}),(9,{cs:=[(13,pc sm)]}),(11,{cs:=[(1,pc c7)]})] [false,false] [(!true)=false,inR .i64 (1+(k:Int)),inR .i64 (1073741824-q),inR .i64 (1073741824-q+1),EqvI (.c (.bool (decide (q≥(2:Int))))) (.c (.bool false)),EqvD (.c (.bool (decide (q≥(2:Int))))) (.c (.bool false)),(bif !((16:Int)==(0:Int))==false then true else bif !false then bif bif (16:Int) != (16:Int) then true else !true then true else !((srcN ((1073741824:Int)-q+(1:Int)) (0:Int)).n==(1073741824:Int)-q+(1:Int)&&((srcN ((1073741824:Int)-q+(1:Int)) (0:Int)).conn==src4.conn&&((srcN ((1073741824:Int)-q+(1:Int)) (0:Int)).now==src4.now&&true))) else false)=false] ⟨rfl,i6,i6,i6,fun _ _=>trivial,aS,(show (bif !((16:Int)==(0:Int))==false then true else bif !false then bif bif (16:Int) != (16:Int) then true else !true then true else !((srcN ((1073741824:Int)-q+(1:Int)) (0:Int)).n==(1073741824:Int)-q+(1:Int)&&((srcN ((1073741824:Int)-q+(1:Int)) (0:Int)).conn==src4.conn&&((srcN ((1073741824:Int)-q+(1:Int)) (0:Int)).now==src4.now&&true))) else false)=false from aS)⟩ ?_
  refine zl (fun (i:Nat)=>⟨[(5,.v (.c (.int .i64 ((1:Int)+(k:Int))))),(6,.v (.c (.ptr 208 0))),(7,.v (.c (.ptr 224 0))),(15,.v (.c (.ptr 1328 0))),(17,.v (.c (.int .i64 ((i:Int)+1))))],[(208,.box 28 (encSt (recS (fullR (1+(k:Int)) 1 w i)))),(224,.box 30 (encSo (srcN (106+2*(i:Int)) 0))),(1328,.box 39 (encGr (gF (1+(k:Int)) 1 w i)))],1424⟩) (fun i=>i≤11) (fun i=>11-i) 0 (Nat.zero_le _) ?_
  intro i L hi again
  rcases Nat.lt_or_ge i 11 with hlt | hge
  ·have rt:=renewT (G:=Gn m) (1+(k:Int)) 1 w i hlt
   clear rf rl ff sf tq
   refine zg [(15,{cs:=[(5,pc rt)]})] [true,false] [decide ((i:Int)+1<12)=true,((0:Int) != (0:Int))=false,inR .i64 ((i:Int)+1+1)] ⟨sO,rfl,i6⟩ ?_
   exact za [] (again _ (i+1) aS oM)
  ·obtain rfl:i=11:=by omega
   clear tq
   refine zg [(19,{cs:=[(5,pc rf)]}),(20,{cs:=[(6,pc ff)]}),(23,{cs:=[(5,pc rl)]}),(24,{cs:=[(5,pc sf)]})] [false] [decide ((↑(11:Nat):Int)+(1:Int)<(12:Int))=false] rfl ?_
   exact zr
 ·have r1:=few_yes (G:=Gn m) (1+(k:Int)) 1 (1073741824-q+1) w vv oM ch
  have t1:EqvD (.c (.bool (decide (q≥2)))) (.c (.bool true)):=eqvD_of (by rw [show decide (q≥2)=true from decide_eq_true oM])
  have sm2:=same20G_ok (G:=Gn m) (recS (fewL (1+(k:Int)) 1 w (1073741824-q+1))) (codedS (1+(k:Int)) 1 w) (recS_fit _ (by show 4≤1000000;decide))
  generalize sameS (recS (fewL (1+(k:Int)) 1 w (1073741824-q+1))) (codedS (1+(k:Int)) 1 w)=bb at sm2
  clear ch
  refine zg [(8,{cs:=[(1,pc c3)],fm:=[(2,.c (.bool true))]}),(1,{cs:=[(0,pc c1)]}),(3,{cs:=[(1,pc c2)]}),(4,{cs:=[(1,pc c4)]}),(6,{cs:=[(1,pc c3)]}),(7,{cs:=[(5,pc c5),(8,pc c6),(9,pc r1)]}),(9,{cs:=[(13,pc sm2)]}),(11,{cs:=[(1,pc c7)]})] [false,false] [(!true)=false,inR .i64 (1+(k:Int)),inR .i64 (1073741824-q),inR .i64 (1073741824-q+1),EqvI (.c (.bool (decide (q≥(2:Int))))) (.c (.bool true)),EqvD (.c (.bool (decide (q≥(2:Int))))) (.c (.bool true)),(bif !((0:Int)==(0:Int))==true then true else bif !true then bif bif (0:Int) != (16:Int) then true else !bb then true else !((srcN ((1073741824:Int)-q+(1:Int)+(1:Int)+(1:Int)) (0:Int)).n==(1073741824:Int)-q+(1:Int)&&((srcN ((1073741824:Int)-q+(1:Int)+(1:Int)+(1:Int)) (0:Int)).conn==src4.conn&&((srcN ((1073741824:Int)-q+(1:Int)+(1:Int)+(1:Int)) (0:Int)).now==src4.now&&true))) else false)=false] ⟨rfl,i6,i6,i6,fun _ _=>trivial,aS,rfl⟩ ?_
  refine zl (fun (i:Nat)=>⟨[(5,.v (.c (.int .i64 ((1:Int)+(k:Int))))),(6,.v (.c (.ptr 208 0))),(7,.v (.c (.ptr 224 0))),(15,.v (.c (.ptr 1328 0))),(17,.v (.c (.int .i64 ((i:Int)+1))))],[(208,.box 28 (encSt (recS (fullR (1+(k:Int)) 1 w i)))),(224,.box 30 (encSo (srcN (106+2*(i:Int)) 0))),(1328,.box 39 (encGr (gF (1+(k:Int)) 1 w i)))],1424⟩) (fun i=>i≤11) (fun i=>11-i) 0 (Nat.zero_le _) ?_
  intro i L hi again
  rcases Nat.lt_or_ge i 11 with hlt | hge
  ·have rt:=renewT (G:=Gn m) (1+(k:Int)) 1 w i hlt
   clear rf rl ff sf tq
   refine zg [(15,{cs:=[(5,pc rt)]})] [true,false] [decide ((i:Int)+1<12)=true,((0:Int) != (0:Int))=false,inR .i64 ((i:Int)+1+1)] ⟨sO,rfl,i6⟩ ?_
   exact za [] (again _ (i+1) aS oM)
  ·obtain rfl:i=11:=by omega
   clear tq
   refine zg [(19,{cs:=[(5,pc rf)]}),(20,{cs:=[(6,pc ff)]}),(23,{cs:=[(5,pc rl)]}),(24,{cs:=[(5,pc sf)]})] [false] [decide ((↑(11:Nat):Int)+(1:Int)<(12:Int))=false] rfl ?_
   exact zr
end Go.Proofs.Tw
end
