/- Own texts for this claim: Sto2, SvNil, Ow, Pp, Wt, Pq, Pr, Pc, Pd, Ps, Pv, Pf, Pg, SvKeep, SvRead, Ph, Pt. -/
import Derived.Test.YtmacpjddafcjcaaGreatDoorPushPlaysCardP3
import Derived.Test.YtmacpjddafcjcaaGreatDoorPushPlaysCardP6
import Derived.Test.YtmacpjddafcjcaaGreatDoorPushPlaysCardP5
import Derived.ChangeSlices
set_option linter.all false
section
open Go Go.Sv Go.RowKit
namespace Go.Proofs.Tw
attribute [local irreducible] Wp FinQ resV Ent Pur Go.Sv.Fn Sat0
set_option maxRecDepth 100000
set_option maxHeartbeats 4000000
variable {G:Nat→Option (List Cell)}
theorem dropD {α:Type} (l:List α) (d:α) (k:Nat) (h:k<l.length):l.drop k=l.getD k d::l.drop (k+1):=by
 rw [List.drop_eq_getElem_cons h];simp [List.getD,h]
theorem live_len (now:Int) (l:List RcT):(liveT now l).length≤l.length:=List.length_filter_le _ _
theorem keepL (l:List RcT) (d:Int) (hl:l.length≤1000000000):FnB Tryz.prog G 181 [bxN d] [.c (rcS l),.c (clo1 221 (.ptr 0 0))] [.c (.row 15 1 0 (l.filter (liveP d)).length)] [(0,bxN d),(1,rcB (l.filter (liveP d)))]:=by
 refine zf Tryz.func181 ?_
 refine z0 [] [] ?_
 refine Wp.loopK kR (fun (x:Nat×Nat×List RcT)=>⟨[(0,.v (.c (rcS l))),(1,.v (.c (clo1 221 (.ptr 0 0)))),(5,.v (.c (.row 15 81 0 x.2.1))),(8,.v (.c (rcS l))),(9,.v (.c (.int .i64 (l.length:Int)))),(10,.v (.c (.int .i64 (x.1:Int))))],[(0,bxN d),(81,.row 84 15 x.2.1 (rowF encRc .nil x.2.2))],97⟩) (fun x=>x.1≤l.length∧x.2.1=x.2.2.length∧x.2.2.length≤x.1∧l.filter (liveP d)=x.2.2++(l.drop x.1).filter (liveP d)) (fun x=>l.length-x.1) (0,0,[]) (Ent.trans (Ent.empT (t:=5) (sz:=15) (e:=84) (f:=(rowF encRc .nil [])) dC kR rfl) (Ent.of [] kR kR kR trivial)) ⟨Nat.zero_le _,rfl,Nat.zero_le _,rfl⟩ ?_
 rintro ⟨k,n,acc⟩ L ⟨hk,hn,hm,hf⟩ again
 simp only at hk hn hm hf
 rcases Nat.lt_or_ge k l.length with hlt | hge
 ·rw [dropD l .nil k hlt,List.filter_cons] at hf
  have c:=live1_ok (G:=G) d (l.getD k .nil)
  cases hp:liveP d (l.getD k .nil) with
  | true =>
   rw [hp] at c
   rw [hp,if_pos rfl] at hf
   have hf2:l.filter (liveP d)=(acc++[l.getD k .nil])++(l.drop (k+1)).filter (liveP d):=by rw [hf];simp
   have e1:BlkEqv (.row 84 15 (n+1) (catF n (rowF encRc .nil acc) (fun i j=>nthD (encRc (l.getD k .nil)) ((0+i)*15+j)))) (.row 84 15 (n+1) (rowF encRc .nil (acc++[l.getD k .nil]))):=enc_app acc _ hn
   have q2:n+1=(acc++[l.getD k .nil]).length:=by simp [hn]
   clear hf hp
   generalize acc++[l.getD k .nil]=acc2 at e1 q2 hf2
   have hm2:acc2.length≤k+1:=by omega
   have hk2:k+1≤l.length:=by omega
   refine zg [(6,{bs:=[(3,.row 84 15 (n+1) (rowF encRc .nil acc2))]}),(5,{cs:=[(2,cb [0] c)]})] [true,true] [decide ((k:Int)<(l.length:Int))=true,(0:Int)≤(k:Int)∧(k:Int)<(l.length:Int),true=true,(n+1)*176≤140737488355328,BlkEqv (.row 84 15 (n+1) (catF n (fun i j=>nthD (encRc (acc.getD i .nil)) j) fun i j=>nthD (encRc (l.getD k .nil)) ((0+i)*15+j))) (.row 84 15 (n+1) (rowF encRc RcT.nil acc2)),n≤n,0+1≤1,inR .i64 ((k:Int)+1)] ⟨sO,oM,rfl,oM,aS,oM,oM,i6⟩ ?_
   exact za [(81,273)] (again _ (k+1,n+1,acc2) ⟨aS,⟨aS,⟨aS,aS⟩⟩⟩ oM)
  | false =>
   rw [hp] at c
   rw [hp,if_neg (by simp)] at hf
   clear hp
   refine zg [(5,{cs:=[(2,cb [0] c)]})] [true,false] [decide ((k:Int)<(l.length:Int))=true,(0:Int)≤(k:Int)∧(k:Int)<(l.length:Int),false=false,inR .i64 ((k:Int)+1)] ⟨sO,oM,rfl,i6⟩ ?_
   exact za [] (again _ (k+1,n,acc) ⟨aS,⟨aS,⟨sO,aS⟩⟩⟩ oM)
 ·rw [List.drop_of_length_le hge,List.filter_nil,List.append_nil] at hf
  rw [hf]
  subst hn
  refine zg [] [false] [decide ((k:Int)<(l.length:Int))=false] (oN sO) ?_
  exact zb [81]
theorem keepR (l:List RcT) (d:Int) (hl:l.length≤1000000000):FnB Tryz.prog G 181 [bxN d] [.c (rcS l),.c (clo1 183 (.ptr 0 0))] [.c (.row 15 1 0 (l.filter (roomP d)).length)] [(0,bxN d),(1,rcB (l.filter (roomP d)))]:=by
 refine zf Tryz.func181 ?_
 refine z0 [] [] ?_
 refine Wp.loopK kR (fun (x:Nat×Nat×List RcT)=>⟨[(0,.v (.c (rcS l))),(1,.v (.c (clo1 183 (.ptr 0 0)))),(5,.v (.c (.row 15 81 0 x.2.1))),(8,.v (.c (rcS l))),(9,.v (.c (.int .i64 (l.length:Int)))),(10,.v (.c (.int .i64 (x.1:Int))))],[(0,bxN d),(81,.row 84 15 x.2.1 (rowF encRc .nil x.2.2))],97⟩) (fun x=>x.1≤l.length∧x.2.1=x.2.2.length∧x.2.2.length≤x.1∧l.filter (roomP d)=x.2.2++(l.drop x.1).filter (roomP d)) (fun x=>l.length-x.1) (0,0,[]) (Ent.trans (Ent.empT (t:=5) (sz:=15) (e:=84) (f:=(rowF encRc .nil [])) dC kR rfl) (Ent.of [] kR kR kR trivial)) ⟨Nat.zero_le _,rfl,Nat.zero_le _,rfl⟩ ?_
 rintro ⟨k,n,acc⟩ L ⟨hk,hn,hm,hf⟩ again
 simp only at hk hn hm hf
 rcases Nat.lt_or_ge k l.length with hlt | hge
 ·rw [dropD l .nil k hlt,List.filter_cons] at hf
  have c:=room1_ok (G:=G) d (l.getD k .nil)
  cases hp:roomP d (l.getD k .nil) with
  | true =>
   rw [hp] at c
   rw [hp,if_pos rfl] at hf
   have hf2:l.filter (roomP d)=(acc++[l.getD k .nil])++(l.drop (k+1)).filter (roomP d):=by rw [hf];simp
   have e1:BlkEqv (.row 84 15 (n+1) (catF n (rowF encRc .nil acc) (fun i j=>nthD (encRc (l.getD k .nil)) ((0+i)*15+j)))) (.row 84 15 (n+1) (rowF encRc .nil (acc++[l.getD k .nil]))):=enc_app acc _ hn
   have q2:n+1=(acc++[l.getD k .nil]).length:=by simp [hn]
   clear hf hp
   generalize acc++[l.getD k .nil]=acc2 at e1 q2 hf2
   have hm2:acc2.length≤k+1:=by omega
   have hk2:k+1≤l.length:=by omega
   refine zg [(6,{bs:=[(3,.row 84 15 (n+1) (rowF encRc .nil acc2))]}),(5,{cs:=[(2,cb [0] c)]})] [true,true] [decide ((k:Int)<(l.length:Int))=true,(0:Int)≤(k:Int)∧(k:Int)<(l.length:Int),true=true,(n+1)*176≤140737488355328,BlkEqv (.row 84 15 (n+1) (catF n (fun i j=>nthD (encRc (acc.getD i .nil)) j) fun i j=>nthD (encRc (l.getD k .nil)) ((0+i)*15+j))) (.row 84 15 (n+1) (rowF encRc RcT.nil acc2)),n≤n,0+1≤1,inR .i64 ((k:Int)+1)] ⟨sO,oM,rfl,oM,aS,oM,oM,i6⟩ ?_
   exact za [(81,273)] (again _ (k+1,n+1,acc2) ⟨aS,⟨aS,⟨aS,aS⟩⟩⟩ oM)
  | false =>
   rw [hp] at c
   rw [hp,if_neg (by simp)] at hf
   clear hp
   refine zg [(5,{cs:=[(2,cb [0] c)]})] [true,false] [decide ((k:Int)<(l.length:Int))=true,(0:Int)≤(k:Int)∧(k:Int)<(l.length:Int),false=false,inR .i64 ((k:Int)+1)] ⟨sO,oM,rfl,i6⟩ ?_
   exact za [] (again _ (k+1,n,acc) ⟨aS,⟨aS,⟨sO,aS⟩⟩⟩ oM)
 ·rw [List.drop_of_length_le hge,List.filter_nil,List.append_nil] at hf
  rw [hf]
  subst hn
  refine zg [] [false] [decide ((k:Int)<(l.length:Int))=false] (oN sO) ?_
  exact zb [81]
theorem liveR_ok (l:List RcT) (now:Int) (hl:l.length≤1000000000):FnB Tryz.prog G 182 [] [.c (rcS l),.c (.int .i64 now)] [.c (.row 15 0 0 (liveT now l).length)] [(0,rcB (liveT now l))]:=by
 refine zf Tryz.func182 ?_
 have c:=keepL (G:=G) l now hl
 refine zg [(1,{cs:=[(2,cb [0] c)],fm:=[(1,.c (clo1 221 (.ptr 0 0)))]})] [] [EqvI (.c (cloRaw 221 [.c (.ptr 0 0)])) (.c (clo1 221 (.ptr 0 0))),EqvD (.c (cloRaw 221 [.c (.ptr 0 0)])) (.c (clo1 221 (.ptr 0 0)))] ⟨clo1_I _ _,clo1_D _ _⟩ ?_
 exact zb [64]
theorem live_ok (l:List RcT) (now:Int) (hl:l.length≤1000000000):Pur Tryz.prog G 182 [.c (rcS l),.c (.int .i64 now)] [.c (rcS (liveT now l))]:=by
 refine zp Tryz.func182 ?_
 have c:=keepL (G:=G) l now hl
 refine zg [(1,{cs:=[(2,cb [0] c)],fm:=[(1,.c (clo1 221 (.ptr 0 0)))]})] [] [EqvI (.c (cloRaw 221 [.c (.ptr 0 0)])) (.c (clo1 221 (.ptr 0 0))),EqvD (.c (cloRaw 221 [.c (.ptr 0 0)])) (.c (clo1 221 (.ptr 0 0)))] ⟨clo1_I _ _,clo1_D _ _⟩ ?_
 refine Wp.ent' kR (Ent.pubT (t:=4) (e:=84) (sz:=(15:Nat)) (id:=64) (off:=(0:Nat)) (m:=(List.filter (liveP now) l).length) (n:=(List.filter (liveP now) l).length) (f:=rowF encRc RcT.nil (List.filter (liveP now) l)) (m':=(liveT now l).length) (f':=rowF encRc RcT.nil (liveT now l)) kR kR oM rfl (fun i _ j _=>by rw [Nat.zero_add];rfl) rfl) ?_
 exact zr
def maxZ (x:Int):Int:=if 0>x then 0 else x
def roomK (l:List RcT) (now kind:Int):Int:=maxZ (mostT kind-(((liveT now l).filter (roomP kind)).length:Int))
theorem mostT_rng (k:Int):0≤mostT k∧mostT k≤12:=by
 unfold mostT
 cases (k==1)<;>cases (k==2)<;>cases (k==3)<;>cases (k==4)<;>cases (k==5)<;>cases (k==6)<;>simp
theorem room_ok (l:List RcT) (now kind:Int) (hl:l.length≤1000000000):Pur Tryz.prog G 140 [.c (rcS l),.c (.int .i64 now),.c (.int .i64 kind)] [.c (.int .i64 (roomK l now kind))]:=by
 refine zp Tryz.func140 ?_
 have c1:=live_ok (G:=G) l now hl
 have c2:=keepR (G:=G) (liveT now l) kind (Nat.le_trans (live_len now l) hl)
 have c3:=most_ok (G:=G) kind
 have hr:=mostT_rng kind
 have hlen:((liveT now l).filter (roomP kind)).length≤1000000000:=Nat.le_trans (List.length_filter_le _ _) (Nat.le_trans (live_len now l) hl)
 refine zg [(1,{cs:=[(2,pc c1),(4,cb [0] c2)],fm:=[(3,.c (clo1 183 (.ptr 0 0)))]}),(2,{cs:=[(1,pc c3)]})] [] [EqvI (.c (cloRaw 183 [.c (.ptr 0 0)])) (.c (clo1 183 (.ptr 0 0))),EqvD (.c (cloRaw 183 [.c (.ptr 0 0)])) (.c (clo1 183 (.ptr 0 0))),inR .i64 (mostT kind-(↑(List.filter (roomP kind) (liveT now l)).length:Int))] ⟨clo1_I _ _,clo1_D _ _,i6⟩ ?_
 exact zr
theorem live19R_ok (l:List RcT) (now:Int) (hl:l.length≤1000000000):FnB Tryz.prog G 98 [] [.c (rcS l),.c (.int .i64 now)] [.c (.row 15 0 0 (liveT now l).length)] [(0,rcB (liveT now l))]:=by
 refine zf Tryz.func98 ?_
 refine z0 [] [] ?_
 refine Wp.loopK kR (fun (x:Nat×Nat×List RcT)=>⟨[(0,.v (.c (rcS l))),(1,.v (.c (.int .i64 now))),(5,.v (.c (.row 15 48 0 x.2.1))),(6,.v (.c (.int .i64 (x.1:Int))))],[(48,.row 84 15 x.2.1 (rowF encRc .nil x.2.2))],64⟩) (fun x=>x.1≤l.length∧x.2.1=x.2.2.length∧x.2.2.length≤x.1∧liveT now l=x.2.2++(l.drop x.1).filter (liveP now)) (fun x=>l.length-x.1) (0,0,[]) (Ent.trans (Ent.empT (t:=5) (sz:=15) (e:=84) (f:=(rowF encRc .nil [])) dC kR rfl) (Ent.of [] kR kR kR trivial)) ⟨Nat.zero_le _,rfl,Nat.zero_le _,rfl⟩ ?_
 rintro ⟨k,n,acc⟩ L ⟨hk,hn,hm,hf⟩ again
 simp only at hk hn hm hf
 rcases Nat.lt_or_ge k l.length with hlt | hge
 ·rw [dropD l .nil k hlt,List.filter_cons] at hf
  have c:=live5_ok (G:=G) now (l.getD k .nil).til
  cases hp:decide (now<(l.getD k .nil).til) with
  | true =>
   rw [hp] at c
   rw [show liveP now (l.getD k .nil)=true from hp,if_pos rfl] at hf
   have hf2:liveT now l=(acc++[l.getD k .nil])++(l.drop (k+1)).filter (liveP now):=by rw [hf];simp
   have e1:BlkEqv (.row 84 15 (n+1) (catF n (rowF encRc .nil acc) (fun i j=>nthD (encRc (l.getD k .nil)) ((0+i)*15+j)))) (.row 84 15 (n+1) (rowF encRc .nil (acc++[l.getD k .nil]))):=enc_app acc _ hn
   have q2:n+1=(acc++[l.getD k .nil]).length:=by simp [hn]
   clear hf hp
   generalize acc++[l.getD k .nil]=acc2 at e1 q2 hf2
   have hm2:acc2.length≤k+1:=by omega
   have hk2:k+1≤l.length:=by omega
   refine zg [(6,{bs:=[(6,.row 84 15 (n+1) (rowF encRc .nil acc2))]}),(5,{cs:=[(6,pc c)]})] [true,true] [decide ((k:Int)<(l.length:Int))=true,(0:Int)≤(k:Int)∧(k:Int)<(l.length:Int),true=true,(0:Int)≤(k:Int)∧(k:Int)<(l.length:Int),(n+1)*176≤140737488355328,BlkEqv (.row 84 15 (n+1) (catF n (fun i j=>nthD (encRc (acc.getD i .nil)) j) fun i j=>nthD (encRc (l.getD k .nil)) ((0+i)*15+j))) (.row 84 15 (n+1) (rowF encRc RcT.nil acc2)),n≤n,0+1≤1,inR .i64 ((k:Int)+1)] ⟨sO,oM,rfl,oM,oM,aS,oM,oM,i6⟩ ?_
   exact za [(48,336)] (again _ (k+1,n+1,acc2) ⟨aS,⟨aS,⟨aS,aS⟩⟩⟩ oM)
  | false =>
   rw [hp] at c
   rw [show liveP now (l.getD k .nil)=false from hp,if_neg (by simp)] at hf
   clear hp
   refine zg [(5,{cs:=[(6,pc c)]})] [true,false] [decide ((k:Int)<(l.length:Int))=true,(0:Int)≤(k:Int)∧(k:Int)<(l.length:Int),false=false,inR .i64 ((k:Int)+1)] ⟨sO,oM,rfl,i6⟩ ?_
   exact za [] (again _ (k+1,n,acc) ⟨aS,⟨aS,⟨sO,aS⟩⟩⟩ oM)
 ·rw [List.drop_of_length_le hge,List.filter_nil,List.append_nil] at hf
  rw [hf]
  subst hn
  refine zg [] [false] [decide ((k:Int)<(l.length:Int))=false] (oN sO) ?_
  exact zb [48]
theorem live19_ok (l:List RcT) (now:Int) (hl:l.length≤1000000000):Pur Tryz.prog G 98 [.c (rcS l),.c (.int .i64 now)] [.c (rcS (liveT now l))]:=by
 refine zp Tryz.func98 ?_
 refine z0 [] [] ?_
 refine Wp.loopK kR (fun (x:Nat×Nat×List RcT)=>⟨[(0,.v (.c (rcS l))),(1,.v (.c (.int .i64 now))),(5,.v (.c (.row 15 48 0 x.2.1))),(6,.v (.c (.int .i64 (x.1:Int))))],[(48,.row 84 15 x.2.1 (rowF encRc .nil x.2.2))],64⟩) (fun x=>x.1≤l.length∧x.2.1=x.2.2.length∧x.2.2.length≤x.1∧liveT now l=x.2.2++(l.drop x.1).filter (liveP now)) (fun x=>l.length-x.1) (0,0,[]) (Ent.trans (Ent.empT (t:=5) (sz:=15) (e:=84) (f:=(rowF encRc .nil [])) dC kR rfl) (Ent.of [] kR kR kR trivial)) ⟨Nat.zero_le _,rfl,Nat.zero_le _,rfl⟩ ?_
 rintro ⟨k,n,acc⟩ L ⟨hk,hn,hm,hf⟩ again
 simp only at hk hn hm hf
 rcases Nat.lt_or_ge k l.length with hlt | hge
 ·rw [dropD l .nil k hlt,List.filter_cons] at hf
  have c:=live5_ok (G:=G) now (l.getD k .nil).til
  cases hp:decide (now<(l.getD k .nil).til) with
  | true =>
   rw [hp] at c
   rw [show liveP now (l.getD k .nil)=true from hp,if_pos rfl] at hf
   have hf2:liveT now l=(acc++[l.getD k .nil])++(l.drop (k+1)).filter (liveP now):=by rw [hf];simp
   have e1:BlkEqv (.row 84 15 (n+1) (catF n (rowF encRc .nil acc) (fun i j=>nthD (encRc (l.getD k .nil)) ((0+i)*15+j)))) (.row 84 15 (n+1) (rowF encRc .nil (acc++[l.getD k .nil]))):=enc_app acc _ hn
   have q2:n+1=(acc++[l.getD k .nil]).length:=by simp [hn]
   clear hf hp
   generalize acc++[l.getD k .nil]=acc2 at e1 q2 hf2
   have hm2:acc2.length≤k+1:=by omega
   have hk2:k+1≤l.length:=by omega
   refine zg [(6,{bs:=[(6,.row 84 15 (n+1) (rowF encRc .nil acc2))]}),(5,{cs:=[(6,pc c)]})] [true,true] [decide ((k:Int)<(l.length:Int))=true,(0:Int)≤(k:Int)∧(k:Int)<(l.length:Int),true=true,(0:Int)≤(k:Int)∧(k:Int)<(l.length:Int),(n+1)*176≤140737488355328,BlkEqv (.row 84 15 (n+1) (catF n (fun i j=>nthD (encRc (acc.getD i .nil)) j) fun i j=>nthD (encRc (l.getD k .nil)) ((0+i)*15+j))) (.row 84 15 (n+1) (rowF encRc RcT.nil acc2)),n≤n,0+1≤1,inR .i64 ((k:Int)+1)] ⟨sO,oM,rfl,oM,oM,aS,oM,oM,i6⟩ ?_
   exact za [(48,336)] (again _ (k+1,n+1,acc2) ⟨aS,⟨aS,⟨aS,aS⟩⟩⟩ oM)
  | false =>
   rw [hp] at c
   rw [show liveP now (l.getD k .nil)=false from hp,if_neg (by simp)] at hf
   clear hp
   refine zg [(5,{cs:=[(6,pc c)]})] [true,false] [decide ((k:Int)<(l.length:Int))=true,(0:Int)≤(k:Int)∧(k:Int)<(l.length:Int),false=false,inR .i64 ((k:Int)+1)] ⟨sO,oM,rfl,i6⟩ ?_
   exact za [] (again _ (k+1,n,acc) ⟨aS,⟨aS,⟨sO,aS⟩⟩⟩ oM)
 ·rw [List.drop_of_length_le hge,List.filter_nil,List.append_nil] at hf
  rw [hf]
  subst hn
  refine zg [] [false] [decide ((k:Int)<(l.length:Int))=false] (oN sO) ?_
  refine Wp.ent' kR (Ent.pubT (t:=4) (e:=84) (sz:=(15:Nat)) (id:=48) (off:=(0:Nat)) (m:=acc.length) (n:=acc.length) (f:=fun (i j:Nat)=>nthD [Cell.int .i64 (acc.getD i RcT.nil).kind,Cell.int .i64 (acc.getD i RcT.nil).key,Cell.int .i64 (acc.getD i RcT.nil).til,Cell.bool (acc.getD i RcT.nil).used,Cell.int .i64 (acc.getD i RcT.nil).client,Cell.int .i64 (acc.getD i RcT.nil).user,Cell.int .i64 (acc.getD i RcT.nil).sess,Cell.int .i64 (acc.getD i RcT.nil).fam,Cell.str (acc.getD i RcT.nil).w.ty,Cell.str (acc.getD i RcT.nil).w.redir,Cell.str (acc.getD i RcT.nil).w.scope,Cell.str (acc.getD i RcT.nil).w.state,Cell.str (acc.getD i RcT.nil).w.nonce,Cell.str (acc.getD i RcT.nil).w.chal,Cell.str (acc.getD i RcT.nil).w.meth] j) (m':=acc.length) (f':=rowF encRc RcT.nil acc) kR kR oM rfl (fun i _ j _=>by rw [Nat.zero_add];rfl) rfl) ?_
  exact zr
theorem take_suc {α:Type} (l:List α) (d:α) (k:Nat) (h:k<l.length):l.take (k+1)=l.take k++[l.getD k d]:=by
 rw [List.take_succ];simp [List.getD,h]
theorem most19A_ok (k:Int):Pur Tryz.prog G 144 [.c (.int .i64 k)] [.c (.int .i64 (mostT k))]:=by
 refine zp Tryz.func144 ?_
 by_cases h:1≤k∧k≤6
 ·have:k=1∨k=2∨k=3∨k=4∨k=5∨k=6:=by omega
  rcases this with rfl | rfl | rfl | rfl | rfl | rfl
  ·refine zg [] [false] [(bif decide ((1:Int)<(1:Int)) then true else decide ((1:Int)>(6:Int)))=false,inR .i64 (1-1),(0:Int)≤(1:Int)-(1:Int)∧(1:Int)-(1:Int)<(↑(6:Nat):Int),0<6] ⟨rfl,i6,oM,(show (0:Nat)<(6:Nat) from oM)⟩ ?_
   exact zr
  ·refine zg [] [false] [(bif decide ((2:Int)<(1:Int)) then true else decide ((2:Int)>(6:Int)))=false,inR .i64 (2-1),(0:Int)≤(2:Int)-(1:Int)∧(2:Int)-(1:Int)<(↑(6:Nat):Int),1<6] ⟨rfl,i6,oM,(show (1:Nat)<(6:Nat) from oM)⟩ ?_
   exact zr
  ·refine zg [] [false] [(bif decide ((3:Int)<(1:Int)) then true else decide ((3:Int)>(6:Int)))=false,inR .i64 (3-1),(0:Int)≤(3:Int)-(1:Int)∧(3:Int)-(1:Int)<(↑(6:Nat):Int),2<6] ⟨rfl,i6,oM,(show (2:Nat)<(6:Nat) from oM)⟩ ?_
   exact zr
  ·refine zg [] [false] [(bif decide ((4:Int)<(1:Int)) then true else decide ((4:Int)>(6:Int)))=false,inR .i64 (4-1),(0:Int)≤(4:Int)-(1:Int)∧(4:Int)-(1:Int)<(↑(6:Nat):Int),3<6] ⟨rfl,i6,oM,(show (3:Nat)<(6:Nat) from oM)⟩ ?_
   exact zr
  ·refine zg [] [false] [(bif decide ((5:Int)<(1:Int)) then true else decide ((5:Int)>(6:Int)))=false,inR .i64 (5-1),(0:Int)≤(5:Int)-(1:Int)∧(5:Int)-(1:Int)<(↑(6:Nat):Int),4<6] ⟨rfl,i6,oM,(show (4:Nat)<(6:Nat) from oM)⟩ ?_
   exact zr
  ·refine zg [] [false] [(bif decide ((6:Int)<(1:Int)) then true else decide ((6:Int)>(6:Int)))=false,inR .i64 (6-1),(0:Int)≤(6:Int)-(1:Int)∧(6:Int)-(1:Int)<(↑(6:Nat):Int),5<6] ⟨rfl,i6,oM,(show (5:Nat)<(6:Nat) from oM)⟩ ?_
   exact zr
 ·have hm:mostT k=0:=by
   unfold mostT
   rw [show (k==1)=false by simp;omega,show (k==2)=false by simp;omega,show (k==3)=false by simp;omega,show (k==4)=false by simp;omega,show (k==5)=false by simp;omega,show (k==6)=false by simp;omega]
   rfl
  have ht:(bif decide (k<1) then true else decide (k>6))=true:=by simp;omega
  rw [hm]
  refine zg [] [true] [(bif decide (k<(1:Int)) then true else decide (k>(6:Int)))=true] (oN aS) ?_
  exact zr
theorem life19A_ok (k:Int):Pur Tryz.prog G 94 [.c (.int .i64 k)] [.c (.int .i64 (lifeT k))]:=by
 refine zp Tryz.func94 ?_
 by_cases h:1≤k∧k≤6
 ·have:k=1∨k=2∨k=3∨k=4∨k=5∨k=6:=by omega
  rcases this with rfl | rfl | rfl | rfl | rfl | rfl
  ·refine zg [] [false] [(bif decide ((1:Int)<(1:Int)) then true else decide ((1:Int)>(6:Int)))=false,inR .i64 (1-1),(0:Int)≤(1:Int)-(1:Int)∧(1:Int)-(1:Int)<(↑(6:Nat):Int),0<6] ⟨rfl,i6,oM,(show (0:Nat)<(6:Nat) from oM)⟩ ?_
   exact zr
  ·refine zg [] [false] [(bif decide ((2:Int)<(1:Int)) then true else decide ((2:Int)>(6:Int)))=false,inR .i64 (2-1),(0:Int)≤(2:Int)-(1:Int)∧(2:Int)-(1:Int)<(↑(6:Nat):Int),1<6] ⟨rfl,i6,oM,(show (1:Nat)<(6:Nat) from oM)⟩ ?_
   exact zr
  ·refine zg [] [false] [(bif decide ((3:Int)<(1:Int)) then true else decide ((3:Int)>(6:Int)))=false,inR .i64 (3-1),(0:Int)≤(3:Int)-(1:Int)∧(3:Int)-(1:Int)<(↑(6:Nat):Int),2<6] ⟨rfl,i6,oM,(show (2:Nat)<(6:Nat) from oM)⟩ ?_
   exact zr
  ·refine zg [] [false] [(bif decide ((4:Int)<(1:Int)) then true else decide ((4:Int)>(6:Int)))=false,inR .i64 (4-1),(0:Int)≤(4:Int)-(1:Int)∧(4:Int)-(1:Int)<(↑(6:Nat):Int),3<6] ⟨rfl,i6,oM,(show (3:Nat)<(6:Nat) from oM)⟩ ?_
   exact zr
  ·refine zg [] [false] [(bif decide ((5:Int)<(1:Int)) then true else decide ((5:Int)>(6:Int)))=false,inR .i64 (5-1),(0:Int)≤(5:Int)-(1:Int)∧(5:Int)-(1:Int)<(↑(6:Nat):Int),4<6] ⟨rfl,i6,oM,(show (4:Nat)<(6:Nat) from oM)⟩ ?_
   exact zr
  ·refine zg [] [false] [(bif decide ((6:Int)<(1:Int)) then true else decide ((6:Int)>(6:Int)))=false,inR .i64 (6-1),(0:Int)≤(6:Int)-(1:Int)∧(6:Int)-(1:Int)<(↑(6:Nat):Int),5<6] ⟨rfl,i6,oM,(show (5:Nat)<(6:Nat) from oM)⟩ ?_
   exact zr
 ·have hm:lifeT k=0:=by
   unfold lifeT
   rw [show (k==1)=false by simp;omega,show (k==2)=false by simp;omega,show (k==3)=false by simp;omega,show (k==4)=false by simp;omega,show (k==5)=false by simp;omega,show (k==6)=false by simp;omega]
   rfl
  have ht:(bif decide (k<1) then true else decide (k>6))=true:=by simp;omega
  rw [hm]
  refine zg [] [true] [(bif decide (k<(1:Int)) then true else decide (k>(6:Int)))=true] (oN aS) ?_
  exact zr
theorem room19_ok (l:List RcT) (now q:Int) (hl:l.length≤1000000000):Pur Tryz.prog G 91 [.c (rcS l),.c (.int .i64 now),.c (.int .i64 q)] [.c (.int .i64 (roomK l now q))]:=by
 refine zp Tryz.func91 ?_
 have c1:=live19_ok (G:=G) l now hl
 have c3:=most19A_ok (G:=G) q
 have hr:=mostT_rng q
 have hlen:=Nat.le_trans (live_len now l) hl
 unfold roomK maxZ
 generalize liveT now l=v at c1 hlen ⊢
 generalize mostT q=m at c3 hr ⊢
 refine z0 [(1,{cs:=[(1,pc c3)]}),(2,{cs:=[(2,pc c1)]})] [] ?_
 refine zl (fun (x:Nat×Int)=>⟨[(2,.v (.c (.int .i64 q))),(7,.v (.c (.int .i64 x.2))),(8,.v (.c (rcS v))),(9,.v (.c (.int .i64 (x.1:Int))))],[],96⟩) (fun x=>x.1≤v.length∧x.2=m-(((v.take x.1).filter (roomP q)).length:Int)∧m-(x.1:Int)≤x.2∧x.2≤m) (fun x=>v.length-x.1) (0,m) ⟨Nat.zero_le _,by simp,by simp,by simp⟩ ?_
 rintro ⟨k,z⟩ L ⟨hk,hz,h1,h2⟩ again
 simp only at hk hz h1 h2
 rcases Nat.lt_or_ge k v.length with hlt | hge
 ·have ht:=take_suc v .nil k hlt
  cases hp:((v.getD k .nil).kind==q) with
  | true =>
   have hq:z-1=m-(((v.take (k+1)).filter (roomP q)).length:Int):=by
    rw [ht,List.filter_append,List.length_append,hz]
    rw [show [v.getD k .nil].filter (roomP q)=[v.getD k .nil] from by rw [List.filter_cons,show roomP q (v.getD k .nil)=true from hp];rfl]
    simp only [List.length_cons,List.length_nil]
    omega
   refine zg [] [true,true] [decide ((k:Int)<(v.length:Int))=true,(0:Int)≤(k:Int)∧(k:Int)<(v.length:Int),((v.getD k .nil).kind==q)=true,inR .i64 (z-1),inR .i64 ((k:Int)+1)] ⟨sO,oM,aS,i6,i6⟩ ?_
   exact za [] (again _ (k+1,z-1) ⟨aS,⟨aS,oM⟩⟩ oM)
  | false =>
   have hq:z=m-(((v.take (k+1)).filter (roomP q)).length:Int):=by
    rw [ht,List.filter_append,List.length_append,hz]
    rw [show [v.getD k .nil].filter (roomP q)=[] from by rw [List.filter_cons,show roomP q (v.getD k .nil)=false from hp];rfl]
    simp only [List.length_nil]
    omega
   refine zg [] [true,false] [decide ((k:Int)<(v.length:Int))=true,(0:Int)≤(k:Int)∧(k:Int)<(v.length:Int),((v.getD k .nil).kind==q)=false,inR .i64 ((k:Int)+1)] ⟨sO,oM,aS,i6⟩ ?_
   exact za [] (again _ (k+1,z) ⟨aS,⟨aS,oM⟩⟩ oM)
 ·rw [List.take_of_length_le hge] at hz
  rw [← hz]
  refine zg [] [false] [decide ((k:Int)<(v.length:Int))=false] (oN sO) ?_
  exact zr
end Go.Proofs.Tw
end
section
namespace Go.Sv
theorem emp_D {sz:Nat} {f:Nat→Nat→Cell}:EqvD (.c .emp) (.c (.sl sz 0 f)):=fun D ρ u ⟨b,o,cap,h,hc⟩ =>
 ⟨some ⟨b,o,none⟩,cap,h,Nat.zero_le _,hc,.inr ⟨b,o,rfl,fun i hi=>(Nat.not_lt_zero _ hi).elim⟩⟩
section
variable {P:Program} {G:Nat→Option (List Cell)} {N kn:Nat} {k:List KI} {Q:St→Prop} {st st':St}
theorem Wp.nil0 (t sz:Nat) (f:Nat→Nat→Cell) (h:isCode k=true) (hl:look st.tm t=some (.v (.c (.sl sz 0 f)))) (h1:Wp P G N kn k Q (st.set (.tm t) (.tv (.v (.c .nilsl))))) (h2:Wp P G N kn k Q (st.set (.tm t) (.tv (.v (.c .emp))))):Wp P G N kn k Q st:=by
 unfold isCode at h
 split at h
 ·rename_i c k
  intro Γ g1 g2 g3 g4 a w hs
  obtain ⟨D,ρ,hs⟩:=hs
  obtain ⟨u,hu,b,cap,hd,_,hc,hor⟩:=hs.tm t _ hl
  have key:∀ x:Cell,Den D ρ x u→x.flat=true→Sat0 Γ (st.set (.tm t) (.tv (.v (.c x)))) a w:=by
   intro x hx hfl
   refine ⟨D,ρ,{ hs with tm := ?_,idT := ?_ }⟩
   ·intro i v hv
    have hv:look (put st.tm t (.v (.c x))) i=some v:=hv
    rw [look_put] at hv
    split at hv
    ·rename_i e
     simp only [Option.some.injEq] at hv
     subst hv e
     exact ⟨u,hu,hx⟩
    ·exact hs.tm i v hv
   ·intro i v hv
    have hv:look (put st.tm t (.v (.c x))) i=some v:=hv
    rw [look_put] at hv
    split at hv
    ·simp only [Option.some.injEq] at hv
     subst hv
     exact Cell.inS_flat hfl
    ·exact hs.idT i v hv
  rcases hor with ⟨rfl,rfl⟩ | ⟨b1,o,rfl,_⟩
  ·exact h1 Γ g1 g2 g3 g4 a w (key .nilsl hd rfl)
  ·exact h2 Γ g1 g2 g3 g4 a w (key .emp ⟨b1,o,cap,hd,hc⟩ rfl)
 ·cases h
end
end Go.Sv
end
section
open Go Go.Sv Go.RowKit
namespace Go.Proofs.Tw
attribute [local irreducible] Wp FinQ resV Ent Pur Go.Sv.Fn Sat0
set_option maxRecDepth 100000
set_option maxHeartbeats 4000000
variable {G:Nat→Option (List Cell)}
theorem ownC_ok (l:List ClT) (hl:l.length≤1000000000):FnB Tryz.prog G 135 [] [.c (clS l)] [.c (.row 4 0 0 l.length)] [(0,.row 76 4 l.length (rowF encCl .nil l))]:=by
 refine zf Tryz.func135 ?_
 have e1:BlkEqv (.row 76 4 l.length (cpyF 0 l.length (fun _ j=>nthD [.str [],.int .i64 0,.nilsl,.str []] j) (fun i j=>nthD (encCl (l.getD i .nil)) j))) (.row 76 4 l.length (rowF encCl .nil l)):=by
  refine BlkEqv.row_ext rfl fun i hi j hj => ?_
  unfold cpyF
  rw [if_neg oM,if_pos oM,Nat.sub_zero]
  rfl
 refine zg [(2,{bs:=[(2,.row 76 4 l.length (rowF encCl .nil l))]})] [] [(0:Int)≤(l.length:Int),(l.length:Int)≤(l.length:Int),(l.length:Int)*(↑(64:Nat):Int)≤(140737488355328:Int),l.length≤l.length,0+l.length≤l.length,BlkEqv (.row 76 4 l.length fun i j=>if i<0 then nthD [.str [],.int .i64 0,.nilsl,.str []] j else if i<0+l.length then rowF encCl ClT.nil l (i-0) j else nthD [.str [],.int .i64 0,.nilsl,.str []] j) (.row 76 4 l.length (rowF encCl ClT.nil l))] ⟨oM,oM,oM,oM,oM,(show BlkEqv (.row 76 (4:Nat) l.length fun i j=>if i<(0:Nat) then nthD [.str [],.int .i64 (0:Int),.nilsl,.str []] j else if i<(0:Nat)+l.length then rowF encCl ClT.nil l (i-(0:Nat)) j else nthD [.str [],.int .i64 (0:Int),.nilsl,.str []] j) (.row 76 (4:Nat) l.length (rowF encCl ClT.nil l)) from aS)⟩ ?_
 exact zb [48]
theorem ownU_ok (l:List UsT) (hl:l.length≤1000000000):FnB Tryz.prog G 136 [] [.c (usS l)] [.c (.row 2 0 0 l.length)] [(0,.row 126 2 l.length (rowF encUs .nil l))]:=by
 refine zf Tryz.func136 ?_
 have e1:BlkEqv (.row 126 2 l.length (cpyF 0 l.length (fun _ j=>nthD [.str [],.int .i64 0] j) (fun i j=>nthD (encUs (l.getD i .nil)) j))) (.row 126 2 l.length (rowF encUs .nil l)):=by
  refine BlkEqv.row_ext rfl fun i hi j hj => ?_
  unfold cpyF
  rw [if_neg oM,if_pos oM,Nat.sub_zero]
  rfl
 refine zg [(2,{bs:=[(2,.row 126 2 l.length (rowF encUs .nil l))]})] [] [(0:Int)≤(l.length:Int),(l.length:Int)≤(l.length:Int),(l.length:Int)*(↑(24:Nat):Int)≤(140737488355328:Int),l.length≤l.length,0+l.length≤l.length,BlkEqv (.row 126 2 l.length fun i j=>if i<0 then nthD [.str [],.int .i64 0] j else if i<0+l.length then rowF encUs UsT.nil l (i-0) j else nthD [.str [],.int .i64 0] j) (.row 126 2 l.length (rowF encUs UsT.nil l))] ⟨oM,oM,oM,oM,oM,(show BlkEqv (.row 126 (2:Nat) l.length fun i j=>if i<(0:Nat) then nthD [.str [],.int .i64 (0:Int)] j else if i<(0:Nat)+l.length then rowF encUs UsT.nil l (i-(0:Nat)) j else nthD [.str [],.int .i64 (0:Int)] j) (.row 126 (2:Nat) l.length (rowF encUs UsT.nil l)) from aS)⟩ ?_
 exact zb [48]
theorem ownR_ok (l:List RcT) (hl:l.length≤1000000000):FnB Tryz.prog G 137 [] [.c (rcS l)] [.c (.row 15 0 0 l.length)] [(0,.row 84 15 l.length (rowF encRc .nil l))]:=by
 refine zf Tryz.func137 ?_
 have e1:BlkEqv (.row 84 15 l.length (cpyF 0 l.length (fun _ j=>nthD [.int .i64 0,.int .i64 0,.int .i64 0,.bool false,.int .i64 0,.int .i64 0,.int .i64 0,.int .i64 0,.str [],.str [],.str [],.str [],.str [],.str [],.str []] j) (fun i j=>nthD (encRc (l.getD i .nil)) j))) (.row 84 15 l.length (rowF encRc .nil l)):=by
  refine BlkEqv.row_ext rfl fun i hi j hj => ?_
  unfold cpyF
  rw [if_neg oM,if_pos oM,Nat.sub_zero]
  rfl
 refine zg [(2,{bs:=[(2,.row 84 15 l.length (rowF encRc .nil l))]})] [] [(0:Int)≤(l.length:Int),(l.length:Int)≤(l.length:Int),(l.length:Int)*(↑(176:Nat):Int)≤(140737488355328:Int),l.length≤l.length,0+l.length≤l.length,BlkEqv (.row 84 15 l.length fun i j=>if i<0 then nthD [.int .i64 0,.int .i64 0,.int .i64 0,.bool false,.int .i64 0,.int .i64 0,.int .i64 0,.int .i64 0,.str [],.str [],.str [],.str [],.str [],.str [],.str []] j else if i<0+l.length then rowF encRc RcT.nil l (i-0) j else nthD [.int .i64 0,.int .i64 0,.int .i64 0,.bool false,.int .i64 0,.int .i64 0,.int .i64 0,.int .i64 0,.str [],.str [],.str [],.str [],.str [],.str [],.str []] j) (.row 84 15 l.length (rowF encRc RcT.nil l))] ⟨oM,oM,oM,oM,oM,(show BlkEqv (.row 84 (15:Nat) l.length fun i j=>if i<(0:Nat) then nthD [.int .i64 (0:Int),.int .i64 (0:Int),.int .i64 (0:Int),.bool false,.int .i64 (0:Int),.int .i64 (0:Int),.int .i64 (0:Int),.int .i64 (0:Int),.str [],.str [],.str [],.str [],.str [],.str [],.str []] j else if i<(0:Nat)+l.length then rowF encRc RcT.nil l (i-(0:Nat)) j else nthD [.int .i64 (0:Int),.int .i64 (0:Int),.int .i64 (0:Int),.bool false,.int .i64 (0:Int),.int .i64 (0:Int),.int .i64 (0:Int),.int .i64 (0:Int),.str [],.str [],.str [],.str [],.str [],.str [],.str []] j) (.row 84 (15:Nat) l.length (rowF encRc RcT.nil l)) from aS)⟩ ?_
 exact zb [48]
theorem ownS_ok (l:List (List UInt8)) (hl:l.length≤1000000000):Pur Tryz.prog G 178 [.c (.sl 1 l.length (strsF l))] [.c (.sl 1 l.length (strsF l))]:=by
 refine zp Tryz.func178 ?_
 have e1:BlkEqv (.row 9 1 l.length (cpyF 0 l.length (fun _ j=>nthD [.str []] j) (strsF l))) (.row 9 1 l.length (strsF l)):=by
  refine BlkEqv.row_ext rfl fun i hi j hj => ?_
  unfold cpyF
  rw [if_neg oM,if_pos oM,Nat.sub_zero]
 refine zg [(2,{bs:=[(2,.row 9 1 l.length (strsF l))]})] [] [(0:Int)≤(l.length:Int),(l.length:Int)≤(l.length:Int),(l.length:Int)*(↑(16:Nat):Int)≤(140737488355328:Int),l.length≤l.length,0+l.length≤l.length,BlkEqv (.row 9 1 l.length fun i j=>if i<0 then nthD [.str []] j else if i<0+l.length then strsF l (i-0) j else nthD [.str []] j) (.row 9 1 l.length (strsF l))] ⟨oM,oM,oM,oM,oM,(show BlkEqv (.row 9 (1:Nat) l.length fun i j=>if i<(0:Nat) then nthD [.str []] j else if i<(0:Nat)+l.length then strsF l (i-(0:Nat)) j else nthD [.str []] j) (.row 9 (1:Nat) l.length (strsF l)) from aS)⟩ ?_
 refine Wp.ent' kR (Ent.pubT (t:=2) (e:=9) (sz:=(1:Nat)) (id:=48) (off:=(0:Nat)) (m:=l.length) (n:=l.length) (f:=strsF l) (m':=l.length) (f':=strsF l) kR kR oM rfl (fun i _ j _=>by rw [Nat.zero_add]) rfl) ?_
 exact zr
theorem ownTx_ok (l:List (List UInt8)) (hl:l.length≤1000000000):Pur Tryz.prog G 138 [.c (.sl 1 l.length (strsF l))] [.c (.sl 1 l.length (strsF l))]:=by
 refine zp Tryz.func138 ?_
 have c:=ownS_ok (G:=G) l hl
 refine z0 [(1,{cs:=[(1,pc c)]})] [] ?_
 exact zr
structure FitS (s:StT):Prop where
 cls:s.cls.length≤1000000
 usr:s.usr.length≤1000000
 recs:s.recs.length≤1000000
 cl:∀ k,FitC (s.cls.getD k .nil)
theorem ownState_ok (s:StT) (hs:FitS s):Pur Tryz.prog G 87 [.agg (encSt s)] [.agg (encSt s)]:=by
 refine zp Tryz.func87 ?_
 have hc1:=hs.cls
 have c1:=ownC_ok (G:=G) s.cls (by have:=hs.cls;omega)
 have c2:=ownU_ok (G:=G) s.usr (by have:=hs.usr;omega)
 have c3:=ownR_ok (G:=G) s.recs (by have:=hs.recs;omega)
 refine z0 [(1,{cs:=[(2,cb [] c1),(5,cb [] c2),(8,cb [] c3)]})] [] ?_
 refine zl (fun (k:Nat)=>⟨[(1,.v (.c (.ptr 0 0))),(2,.v (.c (.ptr 16 0))),(18,.v (.c (.row 4 64 0 s.cls.length))),(19,.v (.c (.int .i64 (s.cls.length:Int)))),(20,.v (.c (.int .i64 (k:Int))))],[(0,.box 67 [.str s.name,.int .i64 s.key,.row 4 64 0 s.cls.length,.row 2 112 0 s.usr.length,.row 15 160 0 s.recs.length]),(16,.box 67 [.str [],.int .i64 0,.nilsl,.nilsl,.nilsl]),(64,.row 76 4 s.cls.length (rowF encCl ClT.nil s.cls)),(112,.row 126 2 s.usr.length (rowF encUs UsT.nil s.usr)),(160,.row 84 15 s.recs.length (rowF encRc RcT.nil s.recs))],336⟩) (fun k=>k≤s.cls.length) (fun k=>s.cls.length-k) 0 (Nat.zero_le _) ?_
 intro k L hk again
 rcases Nat.lt_or_ge k s.cls.length with hlt | hge
 ·have c4:=ownTx_ok (G:=G) (s.cls.getD (0+k) .nil).reds (by have:=(hs.cl (0+k)).reds;omega)
  have e1:BlkEqv (.row 76 4 s.cls.length (fun i j=>if i=0+k∧2≤j∧j<3 then nthD [.sl 1 (s.cls.getD (0+k) .nil).reds.length (strsF (s.cls.getD (0+k) .nil).reds)] (j-2) else rowF encCl .nil s.cls i j)) (.row 76 4 s.cls.length (rowF encCl .nil s.cls)):=BlkEqv.row_ext rfl fun i hi j hj=>by
   split
   ·rename_i h
    obtain ⟨rfl,h2,h3⟩:=h
    obtain rfl:j=2:=by omega
    rfl
   ·rfl
  refine zg [(5,{cs:=[(5,pc c4)],bs:=[(8,.row 76 4 s.cls.length (rowF encCl ClT.nil s.cls))]})] [true] [decide ((k:Int)<(s.cls.length:Int))=true,(0:Int)≤(k:Int)∧(k:Int)<(s.cls.length:Int),0+k<s.cls.length,(0:Int)≤(k:Int)∧(k:Int)<(s.cls.length:Int),BlkEqv (.row 76 4 s.cls.length fun i j=>if i=0+k∧0+2≤j∧j<3 then nthD [.sl 1 (s.cls.getD (0+k) ClT.nil).reds.length (strsF (s.cls.getD (0+k) ClT.nil).reds)] (j-(0+2)) else rowF encCl ClT.nil s.cls i j) (.row 76 4 s.cls.length (rowF encCl ClT.nil s.cls)),0+k<s.cls.length,inR .i64 ((k:Int)+1)] ⟨sO,oM,oM,oM,aS,oM,i6⟩ ?_
  exact za [] (again _ (k+1) aS oM)
 ·refine zg [] [false] [decide ((k:Int)<(s.cls.length:Int))=false] (oN sO) ?_
  refine Wp.ent' kR (Ent.pubC (b:=16) (o:=2) (e:=76) (e':=67) (cs:=[Cell.str s.name,Cell.int .i64 s.key,Cell.row (4:Nat) (64:Nat) (0:Nat) s.cls.length,Cell.row (2:Nat) (112:Nat) (0:Nat) s.usr.length,Cell.row (15:Nat) (160:Nat) (0:Nat) s.recs.length]) (sz:=(4:Nat)) (id:=64) (off:=(0:Nat)) (m:=s.cls.length) (n:=s.cls.length) (f:=rowF encCl ClT.nil s.cls) (m':=s.cls.length) (f':=rowF encCl ClT.nil s.cls) kR kR kR oM rfl (fun i _ j _=>by rw [Nat.zero_add]) rfl) ?_
  refine Wp.ent' kR (Ent.pubC (b:=16) (o:=3) (e:=126) (e':=67) (cs:=[Cell.str s.name,Cell.int .i64 s.key,Cell.sl (4:Nat) s.cls.length (rowF encCl ClT.nil s.cls),Cell.row (2:Nat) (112:Nat) (0:Nat) s.usr.length,Cell.row (15:Nat) (160:Nat) (0:Nat) s.recs.length]) (sz:=(2:Nat)) (id:=112) (off:=(0:Nat)) (m:=s.usr.length) (n:=s.usr.length) (f:=rowF encUs UsT.nil s.usr) (m':=s.usr.length) (f':=rowF encUs UsT.nil s.usr) kR kR kR oM rfl (fun i _ j _=>by rw [Nat.zero_add]) rfl) ?_
  refine Wp.ent' kR (Ent.pubC (b:=16) (o:=4) (e:=84) (e':=67) (cs:=[Cell.str s.name,Cell.int .i64 s.key,Cell.sl (4:Nat) s.cls.length (rowF encCl ClT.nil s.cls),Cell.sl (2:Nat) s.usr.length (rowF encUs UsT.nil s.usr),Cell.row (15:Nat) (160:Nat) (0:Nat) s.recs.length]) (sz:=(15:Nat)) (id:=160) (off:=(0:Nat)) (m:=s.recs.length) (n:=s.recs.length) (f:=rowF encRc RcT.nil s.recs) (m':=s.recs.length) (f':=rowF encRc RcT.nil s.recs) kR kR kR oM rfl (fun i _ j _=>by rw [Nat.zero_add]) rfl) ?_
  exact zr
theorem live_live (now:Int) (l:List RcT):liveT now (liveT now l)=liveT now l:=by
 unfold liveT;rw [List.filter_filter];simp
theorem room_live (now kind:Int) (l:List RcT):roomK (liveT now l) now kind=roomK l now kind:=by
 unfold roomK;rw [live_live]
def putS (l:List RcT) (now:Int) (r:RcT):List RcT×Int :=
 if mostT r.kind=0 then (l,2) else if (liveT now l).any (fun x=>x.key==r.key)=true then (l,6) else if roomK l now r.kind=0 then (l,16) else (liveT now l++[r],0)
theorem clone_ok (l:List RcT) (hl:l.length≤1000000):Pur Tryz.prog G 186 [.c (rcS l)] [.c (rcS l)]:=by
 have e0:BlkEqv (.row 84 15 (0+l.length) (catF 0 (fun i j=>nthD [] (i*15+j)) (rowF encRc .nil l))) (.row 84 15 (0+l.length) (rowF encRc .nil l)):=by
  refine BlkEqv.row_ext rfl fun i hi j hj => ?_
  unfold catF
  rw [if_neg oM,Nat.sub_zero]
 refine zp Tryz.func186 ?_
 cases l with
 | nil =>
  have e2:EqvD (.c .nilsl) (.c (.sl 15 0 (rowF encRc .nil []))):=nilsl_D
  refine Wp.nil0 0 15 (rowF encRc .nil []) kR kR ?_ ?_
  ·refine zg [(2,{fm:=[(0,.c (.sl 15 0 (rowF encRc .nil [])))]})] [true] [true=true,EqvI (.c .nilsl) (.c (.sl 15 0 (rowF encRc RcT.nil []))),EqvD (.c .nilsl) (.c (.sl 15 0 (rowF encRc RcT.nil [])))] ⟨rfl,fun _ _=>trivial,(show EqvD (.c .nilsl) (.c (.sl (15:Nat) (0:Nat) (rowF encRc RcT.nil []))) from aS)⟩ ?_
   exact zr
  ·have e1:EqvD (.c .emp) (.c (.sl 15 0 (rowF encRc .nil []))):=emp_D
   refine zg [(3,{fm:=[(1,.c (.sl 15 0 (rowF encRc .nil [])))],bs:=[(2,.row 84 15 0 (rowF encRc .nil []))]})] [false] [false=false,EqvI (.c .emp) (.c (.sl 15 0 (rowF encRc RcT.nil []))),EqvD (.c .emp) (.c (.sl 15 0 (rowF encRc RcT.nil []))),0≤140737488355328,BlkEqv (.row 84 15 0 (catF 0 (fun i j=>nthD [] (i*15+j)) (rowF encRc RcT.nil []))) (.row 84 15 0 (rowF encRc RcT.nil [])),0≤0] ⟨rfl,fun _ _=>trivial,aS,oM,aS,(show (0:Nat)≤(0:Nat) from oM)⟩ ?_
   refine Wp.ent' kR (Ent.pubT (t:=2) (e:=84) (sz:=(15:Nat)) (id:=80) (off:=(0:Nat)) (m:=(0:Nat)) (n:=(0:Nat)) (f:=rowF encRc RcT.nil []) (m':=([]:List UInt8).length) (f':=rowF encRc RcT.nil []) kR kR oM rfl (fun i _ j _=>by rw [Nat.zero_add]) rfl) ?_
   exact zr
 | cons a r =>
  refine zg [(3,{bs:=[(2,.row 84 15 (0+(a::r).length) (rowF encRc .nil (a::r)))]})] [false] [false=false,(0+(a::r).length)*176≤140737488355328,BlkEqv (.row 84 15 (0+(a::r).length) (catF 0 (fun i j=>nthD [] (i*15+j)) (rowF encRc RcT.nil (a::r)))) (.row 84 15 (0+(a::r).length) (rowF encRc RcT.nil (a::r))),0≤0] ⟨rfl,oM,aS,(show (0:Nat)≤(0:Nat) from oM)⟩ ?_
  refine Wp.ent' kR (Ent.pubT (t:=2) (e:=84) (sz:=(15:Nat)) (id:=80) (off:=(0:Nat)) (m:=(0:Nat)+(a::r).length) (n:=(0:Nat)+(a::r).length) (f:=rowF encRc RcT.nil (a::r)) (m':=(a::r).length) (f':=rowF encRc RcT.nil (a::r)) kR kR oM oM (fun i _ j _=>by rw [Nat.zero_add]) rfl) ?_
  exact zr
theorem idxP_ok (q:RcT) (l:List RcT) (hl:l.length≤1000000):FnB Tryz.prog G 223 [.box 84 (encRc q),rcB l] [.c (.row 15 1 0 l.length),.c (clo1 188 (.ptr 0 0))] [.c (.int .i64 (ixF (fun x=>x.key==q.key) l))] [(0,.box 84 (encRc q)),(1,rcB l)]:=by
 refine zf Tryz.func223 ?_
 refine z0 [] [] ?_
 refine zl (fun (k:Nat)=>⟨[(0,.v (.c (.row 15 1 0 l.length))),(1,.v (.c (clo1 188 (.ptr 0 0)))),(7,.v (.c (.int .i64 (l.length:Int)))),(8,.v (.c (.int .i64 (k:Int))))],[(0,.box 84 (encRc q)),(1,.row 84 15 l.length (rowF encRc .nil l))],66⟩) (fun k=>k≤l.length∧∀ i,i<k→((l.getD i .nil).key==q.key)=false) (fun k=>l.length-k) 0 ⟨Nat.zero_le _,fun _ h=>absurd h (Nat.not_lt_zero _)⟩ ?_
 intro k L ⟨hk,hall⟩ again
 rcases Nat.lt_or_ge k l.length with hlt | hge
 ·have c:=put1_ok (G:=G) q (l.getD (0+k) .nil)
  cases hq:((l.getD k .nil).key==q.key) with
  | true =>
   rw [show ((l.getD (0+k) .nil).key==q.key)=true from by rw [Nat.zero_add];exact hq] at c
   rw [ixF_some (p:=fun x=>x.key==q.key) (d:=RcT.nil) hlt hall hq]
   refine zg [(4,{cs:=[(5,cb [0] c)]})] [true,true] [decide ((k:Int)<(l.length:Int))=true,(0:Int)≤(k:Int)∧(k:Int)<(l.length:Int),0+k<l.length,true=true] ⟨sO,oM,oM,rfl⟩ ?_
   exact zb []
  | false =>
   rw [show ((l.getD (0+k) .nil).key==q.key)=false from by rw [Nat.zero_add];exact hq] at c
   have hall':∀ i,i<k+1→((l.getD i .nil).key==q.key)=false:=fun i hi=>by
    rcases Nat.lt_or_ge i k with h | h
    ·exact hall i h
    ·rw [show i=k by omega];exact hq
   clear hall hq
   refine zg [(4,{cs:=[(5,cb [0] c)]})] [true,false] [decide ((k:Int)<(l.length:Int))=true,(0:Int)≤(k:Int)∧(k:Int)<(l.length:Int),0+k<l.length,false=false,inR .i64 ((k:Int)+1)] ⟨sO,oM,oM,rfl,i6⟩ ?_
   exact za [] (again _ (k+1) ⟨aS,aS⟩ oM)
 ·rw [ixF_none (p:=fun x=>x.key==q.key) (d:=RcT.nil) (fun i hi=>hall i oM)]
  refine zg [] [false] [decide ((k:Int)<(l.length:Int))=false] (oN sO) ?_
  exact zb []
theorem conP_ok (q:RcT) (l:List RcT) (hl:l.length≤1000000):FnB Tryz.prog G 187 [.box 84 (encRc q),rcB l] [.c (.row 15 1 0 l.length),.c (clo1 188 (.ptr 0 0))] [.c (.bool (l.any fun x=>x.key==q.key))] [(0,.box 84 (encRc q)),(1,rcB l)]:=by
 refine zf Tryz.func187 ?_
 have hx:=ixF_any (fun x:RcT=>x.key==q.key) l
 have c:=idxP_ok (G:=G) q l hl
 rw [← hx]
 refine z0 [(1,{cs:=[(2,cb [0,1] c)]})] [] ?_
 exact zb []
theorem storePut_ok (l:List RcT) (now:Int) (r:RcT) (hl:l.length≤100000):Pur Tryz.prog G 143 [.c (rcS l),.c (.int .i64 now),.agg (encRc r)] [.c (rcS (putS l now r).1),.c (.int .i64 (putS l now r).2)]:=by
 refine zp Tryz.func143 ?_
 have hll:=live_len now l
 have c1:=live_ok (G:=G) l now oM
 have c1r:=liveR_ok (G:=G) l now oM
 have c2:=most_ok (G:=G) r.kind
 have c3:=conP_ok (G:=G) r (liveT now l) oM
 have c4:=room_ok (G:=G) (liveT now l) now r.kind oM
 have c5:=clone_ok (G:=G) l oM
 rw [room_live] at c4
 unfold putS
 by_cases h1:mostT r.kind=0
 ·rw [if_pos h1]
  rw [h1] at c2
  refine zg [(1,{cs:=[(2,cb [] c1r)]}),(2,{cs:=[(2,pc c2)]}),(3,{cs:=[(1,pc c5)]})] [true] [((0:Int)==(0:Int))=true] rfl ?_
  exact zr
 ·rw [if_neg h1]
  have t1:(mostT r.kind==0)=false:=by simp [h1]
  cases h2:(liveT now l).any (fun x=>x.key==r.key) with
  | true =>
   rw [h2] at c3
   rw [if_pos rfl]
   clear h2
   refine zg [(4,{cs:=[(2,cb [0,80] c3)],fm:=[(1,.c (clo1 188 (.ptr 0 0)))]}),(1,{cs:=[(2,cb [] c1r)]}),(2,{cs:=[(2,pc c2)]}),(5,{cs:=[(1,pc c5)]})] [false,true] [(mostT r.kind==(0:Int))=false,EqvI (.c (cloRaw 188 [.c (.ptr 0 0)])) (.c (clo1 188 (.ptr 0 0))),EqvD (.c (cloRaw 188 [.c (.ptr 0 0)])) (.c (clo1 188 (.ptr 0 0))),true=true] ⟨aS,clo1_I _ _,clo1_D _ _,rfl⟩ ?_
   exact zr
  | false =>
   rw [h2] at c3
   rw [if_neg (by simp)]
   clear h2
   by_cases h3:roomK l now r.kind=0
   ·rw [if_pos h3]
    rw [h3] at c4
    refine zg [(4,{cs:=[(2,cb [0,80] c3)],fm:=[(1,.c (clo1 188 (.ptr 0 0)))]}),(1,{cs:=[(2,cb [] c1r)]}),(2,{cs:=[(2,pc c2)]}),(6,{cs:=[(4,lc [80] [.row 84 15 (liveT now l).length (rowF encRc RcT.nil (liveT now l))] [.c (.row 15 0 0 (liveT now l).length),.c (.int .i64 now),.c (.int .i64 r.kind)] c4 kR kR kR (show 0+(liveT now l).length≤(liveT now l).length from oM))]}),(7,{cs:=[(1,pc c5)]})] [false,false,true] [(mostT r.kind==(0:Int))=false,EqvI (.c (cloRaw 188 [.c (.ptr 0 0)])) (.c (clo1 188 (.ptr 0 0))),EqvD (.c (cloRaw 188 [.c (.ptr 0 0)])) (.c (clo1 188 (.ptr 0 0))),false=false,((0:Int)==(0:Int))=true] ⟨aS,clo1_I _ _,clo1_D _ _,rfl,rfl⟩ ?_
    exact zr
   ·rw [if_neg h3]
    have t3:(roomK l now r.kind==0)=false:=by simp [h3]
    generalize liveT now l=v at *
    have e1:BlkEqv (.row 84 15 (v.length+1) (catF v.length (rowF encRc .nil v) (fun i j=>nthD (encRc r) ((0+i)*15+j)))) (.row 84 15 (v.length+1) (rowF encRc .nil (v++[r]))):=enc_app v r rfl
    refine zg [(4,{cs:=[(2,cb [0,80] c3)],fm:=[(1,.c (clo1 188 (.ptr 0 0)))]}),(8,{bs:=[(3,.row 84 15 (v.length+1) (rowF encRc .nil (v++[r])))]}),(1,{cs:=[(2,cb [] c1r)]}),(2,{cs:=[(2,pc c2)]}),(6,{cs:=[(4,lc [80] [.row 84 15 v.length (rowF encRc RcT.nil v)] [.c (.row 15 0 0 v.length),.c (.int .i64 now),.c (.int .i64 r.kind)] c4 kR kR kR (show 0+v.length≤v.length from oM))]})] [false,false,false] [(mostT r.kind==(0:Int))=false,EqvI (.c (cloRaw 188 [.c (.ptr 0 0)])) (.c (clo1 188 (.ptr 0 0))),EqvD (.c (cloRaw 188 [.c (.ptr 0 0)])) (.c (clo1 188 (.ptr 0 0))),false=false,(roomK l now r.kind==(0:Int))=false,(v.length+1)*176≤140737488355328,BlkEqv (.row 84 15 (v.length+1) (catF v.length (rowF encRc RcT.nil v) fun i j=>nthD (encRc r) ((0+i)*15+j))) (.row 84 15 (v.length+1) (rowF encRc RcT.nil (v++[r]))),v.length≤v.length,0+1≤1] ⟨aS,clo1_I _ _,clo1_D _ _,rfl,aS,oM,aS,oM,(show (0:Nat)+(1:Nat)≤(1:Nat) from oM)⟩ ?_
    refine Wp.ent' kR (Ent.pubT (t:=6) (e:=84) (sz:=(15:Nat)) (id:=416) (off:=(0:Nat)) (m:=v.length+(1:Nat)) (n:=v.length+(1:Nat)) (f:=rowF encRc RcT.nil (v++[r])) (m':=(v++[r]).length) (f':=fun (i j:Nat)=>nthD [Cell.int .i64 ((v++[r]).getD i RcT.nil).kind,Cell.int .i64 ((v++[r]).getD i RcT.nil).key,Cell.int .i64 ((v++[r]).getD i RcT.nil).til,Cell.bool ((v++[r]).getD i RcT.nil).used,Cell.int .i64 ((v++[r]).getD i RcT.nil).client,Cell.int .i64 ((v++[r]).getD i RcT.nil).user,Cell.int .i64 ((v++[r]).getD i RcT.nil).sess,Cell.int .i64 ((v++[r]).getD i RcT.nil).fam,Cell.str ((v++[r]).getD i RcT.nil).w.ty,Cell.str ((v++[r]).getD i RcT.nil).w.redir,Cell.str ((v++[r]).getD i RcT.nil).w.scope,Cell.str ((v++[r]).getD i RcT.nil).w.state,Cell.str ((v++[r]).getD i RcT.nil).w.nonce,Cell.str ((v++[r]).getD i RcT.nil).w.chal,Cell.str ((v++[r]).getD i RcT.nil).w.meth] j) kR kR oM (by simp) (fun i _ j _=>by rw [Nat.zero_add];rfl) rfl) ?_
    exact zr
def sepsS:List (List UInt8):=[[32],[32],[32],[32,32],[9]]
def wrdsS:List (List UInt8):=[[111,112,101,110,105,100],[112,114,111,102,105,108,101],[97],[98],[99],[126],[],[34]]
def heads:List (List UInt8):=[[111,112,101,110,105,100],[112,114,111,102,105,108,101],[97],[98]]
def scMore (ns:List Int):Nat→Nat→List UInt8→List UInt8×Nat
 | 0,a,s=>(s,a)
 | k+1,a,s=>scMore ns k (nextA ns (nextA ns a 5) 8) (s++pickT sepsS ns a++pickT wrdsS ns (nextA ns a 5))
def scopT (ns:List Int) (a:Nat):List UInt8×Nat:=scMore ns (nextV ns (nextA ns a 4) 4).toNat (nextA ns (nextA ns a 4) 4) (pickT heads ns a)
def redW:List (List UInt8):=[[104,116,116,112,115,58,47,47,99,49,47,116,119,111],[104,116,116,112,115,58,47,47,97,116,47,99,98],[],[104,116,116,112,115,58,47,47,99,49,47,99,98,47]]
def wantT (ns:List Int) (a:Nat) (n:Int):WT×Nat :=
 let w:WT:={ rightT n with chal:=chalT (30+withT (nextV ns a 3) 3) }
 let a1:=nextA ns a 3
 let q:=nextV ns a1 16
 let a2:=nextA ns a1 16
 if q=0 then ({ w with ty:=pickT [[116,111,107,101,110],[],[67,111,100,101]] ns a2 },nextA ns a2 3)
 else if q=1 then ({ w with redir:=pickT redW ns a2 },nextA ns a2 4)
 else if q=2 then ({ w with scope:=(scopT ns a2).1 },(scopT ns a2).2)
 else if q=3 then ({ w with state:=pickT [[],[97,32,98],[0],[126]] ns a2 },nextA ns a2 4)
 else if q=4 then ({ w with nonce:=pickT [[],[97,32,98],[126]] ns a2 },nextA ns a2 3)
 else if q=5 then ({ w with chal:=pickT [[],[120],keyT 3] ns a2 },nextA ns a2 3)
 else if q=6 then ({ w with meth:=pickT [[112,108,97,105,110],[],[115,50,53,54]] ns a2 },nextA ns a2 3)
 else if q=7 then ({ w with scope:=[97,32,111,112,101,110,105,100],nonce:=keyT 9 },a2)
 else (w,a2)
theorem pickT_le (B:Nat) (ss:List (List UInt8)) (h:ss.all (fun x=>decide (x.length≤B))=true) (ns:List Int) (a:Nat):(pickT ss ns a).length≤B:=by
 unfold pickT
 rw [List.getD_eq_getElem?_getD]
 cases hg:ss[(nextV ns a ss.length).toNat]? with
 | none=>simp
 | some x=>exact of_decide_eq_true (List.all_eq_true.1 h x (List.mem_of_getElem? hg))
theorem scope_ok (ns:List Int) (a:Nat) (hl:ns.length≤9223372036854775807):FnB Tryz.prog G 78 [tapeB ns a] [.c (.ptr 0 0)] [.c (.str (scopT ns a).1)] [(0,tapeB ns (scopT ns a).2)]:=by
 refine zf Tryz.func78 ?_
 have c1:FnB Tryz.prog G 50 [tapeB ns a] [.c (.ptr 0 0),.c (.sl 1 4 (strsF heads))] [.c (.str (pickT heads ns a))] [(0,tapeB ns (nextA ns a 4))]:=pick_ok (G:=G) heads ns a hl dC
 have c2:=next_ok (G:=G) ns (nextA ns a 4) 4 hl dC
 have hr:=nextV_rng ns (nextA ns a 4) 4 dC
 have hs:=pickT_le 7 heads kR ns a
 unfold scopT
 generalize pickT heads ns a=s0 at c1 hs ⊢
 generalize nextA ns (nextA ns a 4) 4=a0 at c2 ⊢
 generalize nextV ns (nextA ns a 4) 4=v at c2 hr ⊢
 obtain ⟨k0,rfl⟩:∃ k:Nat,v=(k:Int):=⟨v.toNat,by omega⟩
 rw [Int.toNat_natCast]
 refine zg [(1,{fm:=[(1,.c (.sl 1 4 (strsF heads)))],cs:=[(2,cb [0] c1)]}),(2,{cs:=[(1,cb [0] c2)]})] [] [EqvI (.c (.sl 1 4 (fun i j=>nthD (heads.map .str) (i*1+j)))) (.c (.sl 1 4 (strsF heads))),EqvD (.c (.sl 1 4 (fun i j=>nthD (heads.map .str) (i*1+j)))) (.c (.sl 1 4 (strsF heads)))] ⟨fun _ _=>trivial,lit_D kR⟩ ?_
 refine zl (fun (x:Nat×Nat×List UInt8)=>⟨[(0,.v (.c (.ptr 0 0))),(3,.v (.c (.str x.2.2))),(4,.v (.c (.int .i64 (x.1:Int))))],[(0,tapeB ns x.2.1)],129⟩) (fun x=>x.1≤3∧scMore ns k0 a0 s0=scMore ns x.1 x.2.1 x.2.2∧x.2.2.length+9*x.1≤40) (fun x=>x.1) (k0,a0,s0) ⟨by omega,rfl,by show s0.length+9*k0≤40;omega⟩ ?_
 rintro ⟨k,a,s⟩ L ⟨hk,hq,hm⟩ again
 simp only at hk hq hm
 cases k with
 | zero =>
  rw [hq]
  simp only [scMore]
  refine zg [] [false] [decide ((↑(0:Nat):Int)>(0:Int))=false] rfl ?_
  exact zb []
 | succ k =>
  have c3:FnB Tryz.prog G 50 [tapeB ns a] [.c (.ptr 0 0),.c (.sl 1 5 (strsF sepsS))] [.c (.str (pickT sepsS ns a))] [(0,tapeB ns (nextA ns a 5))]:=pick_ok (G:=G) sepsS ns a hl dC
  have c4:FnB Tryz.prog G 50 [tapeB ns (nextA ns a 5)] [.c (.ptr 0 0),.c (.sl 1 8 (strsF wrdsS))] [.c (.str (pickT wrdsS ns (nextA ns a 5)))] [(0,tapeB ns (nextA ns (nextA ns a 5) 8))]:=pick_ok (G:=G) wrdsS ns (nextA ns a 5) hl dC
  have p1:=pickT_le 2 sepsS kR ns a
  have p2:=pickT_le 7 wrdsS kR ns (nextA ns a 5)
  rw [scMore] at hq
  generalize pickT sepsS ns a=u at *
  generalize pickT wrdsS ns (nextA ns a 5)=v at *
  generalize nextA ns (nextA ns a 5) 8=a2 at *
  generalize nextA ns a 5=a1 at *
  have hm2:(s++u++v).length+9*k≤40:=by simp only [List.length_append];omega
  have hk2:k≤3:=by omega
  have e1:EqvD (.c (.int .i64 (((k+1:Nat):Int)-1))) (.c (.int .i64 (k:Int))):=eqvD_of (by rw [show ((k+1:Nat):Int)-1=(k:Int) by omega])
  have t1:decide (((k+1:Nat):Int)>0)=true:=decide_eq_true oM
  refine zg [(5,{cs:=[(3,cb [0] c3),(7,cb [0] c4)],fm:=[(2,.c (.sl 1 5 (strsF sepsS))),(6,.c (.sl 1 8 (strsF wrdsS)))]}),(4,{fm:=[(1,.c (.int .i64 (k:Int)))]})] [true] [decide ((↑(k+(1:Nat)):Int)>(0:Int))=true,EqvI (.c (.sl 1 (5:Nat) fun i j=>nthD [.str [(32:UInt8)],.str [(32:UInt8)],.str [(32:UInt8)],.str [(32:UInt8),32],.str [(9:UInt8)]] (i*(1:Nat)+j))) (.c (.sl 1 (5:Nat) (strsF sepsS))),EqvD (.c (.sl 1 (5:Nat) fun i j=>nthD [.str [(32:UInt8)],.str [(32:UInt8)],.str [(32:UInt8)],.str [(32:UInt8),32],.str [(9:UInt8)]] (i*(1:Nat)+j))) (.c (.sl 1 (5:Nat) (strsF sepsS))),s.length+u.length≤9223372036854775807,EqvI (.c (.sl 1 (8:Nat) fun i j=>nthD [.str [(111:UInt8),112,101,110,105,100],.str [(112:UInt8),114,111,102,105,108,101],.str [(97:UInt8)],.str [(98:UInt8)],.str [(99:UInt8)],.str [(126:UInt8)],.str [],.str [(34:UInt8)]] (i*(1:Nat)+j))) (.c (.sl 1 (8:Nat) (strsF wrdsS))),EqvD (.c (.sl 1 (8:Nat) fun i j=>nthD [.str [(111:UInt8),112,101,110,105,100],.str [(112:UInt8),114,111,102,105,108,101],.str [(97:UInt8)],.str [(98:UInt8)],.str [(99:UInt8)],.str [(126:UInt8)],.str [],.str [(34:UInt8)]] (i*(1:Nat)+j))) (.c (.sl 1 (8:Nat) (strsF wrdsS))),(s++u).length+v.length≤9223372036854775807,EqvI (.c (.int .i64 ((↑(k+(1:Nat)):Int)-(1:Int)))) (.c (.int .i64 (k:Int))),EqvD (.c (.int .i64 ((↑(k+(1:Nat)):Int)-(1:Int)))) (.c (.int .i64 (k:Int))),inR .i64 ((↑(k+(1:Nat)):Int)-(1:Int))] ⟨aS,fun _ _=>trivial,lit_D kR,oM,fun _ _=>trivial,lit_D kR,sO,fun _ _=>trivial,aS,i6⟩ ?_
  exact za [] (again _ (k,a2,s++u++v) ⟨aS,⟨aS,aS⟩⟩ oM)
theorem want_ok (ns:List Int) (a:Nat) (n:Int) (h0:0≤n) (h1:n≤1000) (hl:ns.length≤9223372036854775807):FnB Tryz.prog G 38 [tapeB ns a] [.c (.ptr 0 0),.c (.int .i64 n)] [.agg (encW (wantT ns a n).1)] [(0,tapeB ns (wantT ns a n).2)]:=by
 refine zf Tryz.func38 ?_
 have c1:=right_ok (G:=G) n h0 oM
 have c2:=next_ok (G:=G) ns a 3 hl dC
 have c3:=ver_ok (G:=G) (nextV ns a 3)
 have hv:=with3 (nextV ns a 3)
 have c4:=chal_ok (G:=G) (verT (nextV ns a 3)) (k:=30+withT (nextV ns a 3) 3) (by show (keyT (30+withT (nextV ns a 3) 3)).length≤30000000000000;rw [key_len];decide) (readVer _) oM oM
 have c5:=next_ok (G:=G) ns (nextA ns a 3) 16 hl dC
 have hq:=nextV_rng ns (nextA ns a 3) 16 dC
 have pk:=fun ss b h=>pick_ok (G:=G) ss ns b hl h
 unfold wantT
 simp only []
 generalize hw:({ rightT n with chal:=chalT (30+withT (nextV ns a 3) 3) }:WT)=w0
 generalize rightT n=r0 at c1 hw
 generalize chalT (30+withT (nextV ns a 3) 3)=ch at c4 hw
 generalize verT (nextV ns a 3)=ve at c3 c4
 generalize nextA ns (nextA ns a 3) 16=a2 at c5 ⊢
 generalize nextV ns (nextA ns a 3) 16=q at c5 hq ⊢
 subst hw
 by_cases q0:q=0
 ·subst q0
  rw [if_pos rfl]
  have c6:FnB Tryz.prog G 50 [tapeB ns a2] [.c (.ptr 0 0),.c (.sl 1 3 (strsF [[116,111,107,101,110],[],[67,111,100,101]]))] [.c (.str (pickT [[116,111,107,101,110],[],[67,111,100,101]] ns a2))] [(0,tapeB ns (nextA ns a2 3))]:=pk [[116,111,107,101,110],[],[67,111,100,101]] a2 dC
  refine zg [(6,{cs:=[(2,cb [0] c6)],fm:=[(1,.c (.sl 1 3 (strsF [[116,111,107,101,110],[],[67,111,100,101]])))]}),(1,{cs:=[(1,pc c1)]}),(2,{cs:=[(1,cb [0] c2),(2,pc c3),(3,pc c4)]}),(4,{cs:=[(1,cb [0] c5)]})] [true] [((0:Int)==(0:Int))=true,EqvI (.c (.sl 1 (3:Nat) fun i j=>nthD [.str [(116:UInt8),111,107,101,110],.str [],.str [(67:UInt8),111,100,101]] (i*(1:Nat)+j))) (.c (.sl 1 (3:Nat) (strsF [[(116:UInt8),111,107,101,110],[],[(67:UInt8),111,100,101]]))),EqvD (.c (.sl 1 (3:Nat) fun i j=>nthD [.str [(116:UInt8),111,107,101,110],.str [],.str [(67:UInt8),111,100,101]] (i*(1:Nat)+j))) (.c (.sl 1 (3:Nat) (strsF [[(116:UInt8),111,107,101,110],[],[(67:UInt8),111,100,101]])))] ⟨rfl,fun _ _=>trivial,lit_D kR⟩ ?_
  exact zb []
 rw [if_neg q0]
 by_cases q1:q=1
 ·subst q1
  rw [if_pos rfl]
  have c6:FnB Tryz.prog G 50 [tapeB ns a2] [.c (.ptr 0 0),.c (.sl 1 4 (strsF redW))] [.c (.str (pickT redW ns a2))] [(0,tapeB ns (nextA ns a2 4))]:=pk redW a2 dC
  refine zg [(8,{cs:=[(2,cb [0] c6)],fm:=[(1,.c (.sl 1 4 (strsF redW)))]}),(1,{cs:=[(1,pc c1)]}),(2,{cs:=[(1,cb [0] c2),(2,pc c3),(3,pc c4)]}),(4,{cs:=[(1,cb [0] c5)]})] [false,true] [((1:Int)==(0:Int))=false,((1:Int)==(1:Int))=true,EqvI (.c (.sl 1 (4:Nat) fun i j=>nthD [.str [(104:UInt8),116,116,112,115,58,47,47,99,49,47,116,119,111],.str [(104:UInt8),116,116,112,115,58,47,47,97,116,47,99,98],.str [],.str [(104:UInt8),116,116,112,115,58,47,47,99,49,47,99,98,47]] (i*(1:Nat)+j))) (.c (.sl 1 (4:Nat) (strsF redW))),EqvD (.c (.sl 1 (4:Nat) fun i j=>nthD [.str [(104:UInt8),116,116,112,115,58,47,47,99,49,47,116,119,111],.str [(104:UInt8),116,116,112,115,58,47,47,97,116,47,99,98],.str [],.str [(104:UInt8),116,116,112,115,58,47,47,99,49,47,99,98,47]] (i*(1:Nat)+j))) (.c (.sl 1 (4:Nat) (strsF redW)))] ⟨rfl,rfl,fun _ _=>trivial,lit_D kR⟩ ?_
  exact zb []
 rw [if_neg q1]
 by_cases q2:q=2
 ·subst q2
  rw [if_pos rfl]
  have c6:=scope_ok (G:=G) ns a2 hl
  refine zg [(1,{cs:=[(1,pc c1)]}),(2,{cs:=[(1,cb [0] c2),(2,pc c3),(3,pc c4)]}),(4,{cs:=[(1,cb [0] c5)]}),(10,{cs:=[(1,cb [0] c6)]})] [false,false,true] [((2:Int)==(0:Int))=false,((2:Int)==(1:Int))=false,((2:Int)==(2:Int))=true] ⟨rfl,rfl,rfl⟩ ?_
  exact zb []
 rw [if_neg q2]
 by_cases q3:q=3
 ·subst q3
  rw [if_pos rfl]
  have c6:FnB Tryz.prog G 50 [tapeB ns a2] [.c (.ptr 0 0),.c (.sl 1 4 (strsF [[],[97,32,98],[0],[126]]))] [.c (.str (pickT [[],[97,32,98],[0],[126]] ns a2))] [(0,tapeB ns (nextA ns a2 4))]:=pk [[],[97,32,98],[0],[126]] a2 dC
  refine zg [(12,{cs:=[(2,cb [0] c6)],fm:=[(1,.c (.sl 1 4 (strsF [[],[97,32,98],[0],[126]])))]}),(1,{cs:=[(1,pc c1)]}),(2,{cs:=[(1,cb [0] c2),(2,pc c3),(3,pc c4)]}),(4,{cs:=[(1,cb [0] c5)]})] [false,false,false,true] [((3:Int)==(0:Int))=false,((3:Int)==(1:Int))=false,((3:Int)==(2:Int))=false,((3:Int)==(3:Int))=true,EqvI (.c (.sl 1 (4:Nat) fun i j=>nthD [.str [],.str [(97:UInt8),32,98],.str [(0:UInt8)],.str [(126:UInt8)]] (i*(1:Nat)+j))) (.c (.sl 1 (4:Nat) (strsF [[],[(97:UInt8),32,98],[(0:UInt8)],[(126:UInt8)]]))),EqvD (.c (.sl 1 (4:Nat) fun i j=>nthD [.str [],.str [(97:UInt8),32,98],.str [(0:UInt8)],.str [(126:UInt8)]] (i*(1:Nat)+j))) (.c (.sl 1 (4:Nat) (strsF [[],[(97:UInt8),32,98],[(0:UInt8)],[(126:UInt8)]])))] ⟨rfl,rfl,rfl,rfl,fun _ _=>trivial,lit_D kR⟩ ?_
  exact zb []
 rw [if_neg q3]
 by_cases q4:q=4
 ·subst q4
  rw [if_pos rfl]
  have c6:FnB Tryz.prog G 50 [tapeB ns a2] [.c (.ptr 0 0),.c (.sl 1 3 (strsF [[],[97,32,98],[126]]))] [.c (.str (pickT [[],[97,32,98],[126]] ns a2))] [(0,tapeB ns (nextA ns a2 3))]:=pk [[],[97,32,98],[126]] a2 dC
  refine zg [(14,{cs:=[(2,cb [0] c6)],fm:=[(1,.c (.sl 1 3 (strsF [[],[97,32,98],[126]])))]}),(1,{cs:=[(1,pc c1)]}),(2,{cs:=[(1,cb [0] c2),(2,pc c3),(3,pc c4)]}),(4,{cs:=[(1,cb [0] c5)]})] [false,false,false,false,true] [((4:Int)==(0:Int))=false,((4:Int)==(1:Int))=false,((4:Int)==(2:Int))=false,((4:Int)==(3:Int))=false,((4:Int)==(4:Int))=true,EqvI (.c (.sl 1 (3:Nat) fun i j=>nthD [.str [],.str [(97:UInt8),32,98],.str [(126:UInt8)]] (i*(1:Nat)+j))) (.c (.sl 1 (3:Nat) (strsF [[],[(97:UInt8),32,98],[(126:UInt8)]]))),EqvD (.c (.sl 1 (3:Nat) fun i j=>nthD [.str [],.str [(97:UInt8),32,98],.str [(126:UInt8)]] (i*(1:Nat)+j))) (.c (.sl 1 (3:Nat) (strsF [[],[(97:UInt8),32,98],[(126:UInt8)]])))] ⟨rfl,rfl,rfl,rfl,rfl,fun _ _=>trivial,lit_D kR⟩ ?_
  exact zb []
 rw [if_neg q4]
 by_cases q5:q=5
 ·subst q5
  rw [if_pos rfl]
  have c7:=Key_ok (G:=G) 3 dC dC
  generalize keyT 3=k3 at c7 ⊢
  have c6:FnB Tryz.prog G 50 [tapeB ns a2] [.c (.ptr 0 0),.c (.sl 1 3 (strsF [[],[120],k3]))] [.c (.str (pickT [[],[120],k3] ns a2))] [(0,tapeB ns (nextA ns a2 3))]:=pk [[],[120],k3] a2 (by show 3<_;decide)
  refine zg [(16,{cs:=[(1,pc c7),(3,cb [0] c6)],fm:=[(2,.c (.sl 1 3 (strsF [[],[120],k3])))]}),(1,{cs:=[(1,pc c1)]}),(2,{cs:=[(1,cb [0] c2),(2,pc c3),(3,pc c4)]}),(4,{cs:=[(1,cb [0] c5)]})] [false,false,false,false,false,true] [((5:Int)==(0:Int))=false,((5:Int)==(1:Int))=false,((5:Int)==(2:Int))=false,((5:Int)==(3:Int))=false,((5:Int)==(4:Int))=false,((5:Int)==(5:Int))=true,EqvI (.c (.sl 1 (3:Nat) fun i j=>nthD [.str [],.str [(120:UInt8)],.str k3] (i*(1:Nat)+j))) (.c (.sl 1 (3:Nat) (strsF [[],[(120:UInt8)],k3]))),EqvD (.c (.sl 1 (3:Nat) fun i j=>nthD [.str [],.str [(120:UInt8)],.str k3] (i*(1:Nat)+j))) (.c (.sl 1 (3:Nat) (strsF [[],[(120:UInt8)],k3])))] ⟨rfl,rfl,rfl,rfl,rfl,rfl,fun _ _=>trivial,lit_D kR⟩ ?_
  exact zb []
 rw [if_neg q5]
 by_cases q6:q=6
 ·subst q6
  rw [if_pos rfl]
  have c6:FnB Tryz.prog G 50 [tapeB ns a2] [.c (.ptr 0 0),.c (.sl 1 3 (strsF [[112,108,97,105,110],[],[115,50,53,54]]))] [.c (.str (pickT [[112,108,97,105,110],[],[115,50,53,54]] ns a2))] [(0,tapeB ns (nextA ns a2 3))]:=pk [[112,108,97,105,110],[],[115,50,53,54]] a2 dC
  refine zg [(18,{cs:=[(2,cb [0] c6)],fm:=[(1,.c (.sl 1 3 (strsF [[112,108,97,105,110],[],[115,50,53,54]])))]}),(1,{cs:=[(1,pc c1)]}),(2,{cs:=[(1,cb [0] c2),(2,pc c3),(3,pc c4)]}),(4,{cs:=[(1,cb [0] c5)]})] [false,false,false,false,false,false,true] [((6:Int)==(0:Int))=false,((6:Int)==(1:Int))=false,((6:Int)==(2:Int))=false,((6:Int)==(3:Int))=false,((6:Int)==(4:Int))=false,((6:Int)==(5:Int))=false,((6:Int)==(6:Int))=true,EqvI (.c (.sl 1 (3:Nat) fun i j=>nthD [.str [(112:UInt8),108,97,105,110],.str [],.str [(115:UInt8),50,53,54]] (i*(1:Nat)+j))) (.c (.sl 1 (3:Nat) (strsF [[(112:UInt8),108,97,105,110],[],[(115:UInt8),50,53,54]]))),EqvD (.c (.sl 1 (3:Nat) fun i j=>nthD [.str [(112:UInt8),108,97,105,110],.str [],.str [(115:UInt8),50,53,54]] (i*(1:Nat)+j))) (.c (.sl 1 (3:Nat) (strsF [[(112:UInt8),108,97,105,110],[],[(115:UInt8),50,53,54]])))] ⟨rfl,rfl,rfl,rfl,rfl,rfl,rfl,fun _ _=>trivial,lit_D kR⟩ ?_
  exact zb []
 rw [if_neg q6]
 by_cases q7:q=7
 ·subst q7
  rw [if_pos rfl]
  have c7:=Key_ok (G:=G) 9 dC dC
  generalize keyT 9=k9 at c7 ⊢
  refine zg [(1,{cs:=[(1,pc c1)]}),(2,{cs:=[(1,cb [0] c2),(2,pc c3),(3,pc c4)]}),(4,{cs:=[(1,cb [0] c5)]}),(20,{cs:=[(0,pc c7)]})] [false,false,false,false,false,false,false,true] [((7:Int)==(0:Int))=false,((7:Int)==(1:Int))=false,((7:Int)==(2:Int))=false,((7:Int)==(3:Int))=false,((7:Int)==(4:Int))=false,((7:Int)==(5:Int))=false,((7:Int)==(6:Int))=false,((7:Int)==(7:Int))=true] ⟨rfl,rfl,rfl,rfl,rfl,rfl,rfl,rfl⟩ ?_
  exact zb []
 rw [if_neg q7]
 have t0:(q==0)=false:=by simp [q0]
 have t1:(q==1)=false:=by simp [q1]
 have t2:(q==2)=false:=by simp [q2]
 have t3:(q==3)=false:=by simp [q3]
 have t4:(q==4)=false:=by simp [q4]
 have t5:(q==5)=false:=by simp [q5]
 have t6:(q==6)=false:=by simp [q6]
 have t7:(q==7)=false:=by simp [q7]
 refine zg [(1,{cs:=[(1,pc c1)]}),(2,{cs:=[(1,cb [0] c2),(2,pc c3),(3,pc c4)]}),(4,{cs:=[(1,cb [0] c5)]})] [false,false,false,false,false,false,false,false] [(q==(0:Int))=false,(q==(1:Int))=false,(q==(2:Int))=false,(q==(3:Int))=false,(q==(4:Int))=false,(q==(5:Int))=false,(q==(6:Int))=false,(q==(7:Int))=false] ⟨aS,aS,aS,aS,aS,aS,aS,(show (q==(7:Int))=false from aS)⟩ ?_
 exact zb []
def deskC (s:StT) (src:SoT):List Cell:=[.str s.name,.int .i64 s.key,clS s.cls,usS s.usr,rcS s.recs,.int .i64 src.n,.int .i64 src.conn,.int .i64 src.now]
def deskB (s:StT) (src:SoT):Blk := .box 134 (deskC s src)
structure FitR (src:SoT):Prop where
 now0:0≤src.now
 now1:src.now≤1000000000
 n : -1000000000000≤src.n
theorem deskNo_ok (s:StT) (hs:FitS s) (src:SoT) (n:Int) (h:n<1∨(s.cls.length:Int)<n):FnB Tryz.prog G 88 [deskB s src] [.c (.ptr 0 0),.c (.int .i64 n)] [.agg [.str [],.int .i64 0,.nilsl,.str []],.c (.int .i64 9)] [(0,deskB s src)]:=by
 refine zf Tryz.func88 ?_
 rcases h with h | h
 ·have t1:decide (n<1)=true:=decide_eq_true h
  refine zg [] [true] [(bif decide (n<(1:Int)) then true else decide (n>(s.cls.length:Int)))=true] (oN sO) ?_
  exact zb []
 ·have hc:=hs.cls
  have t1:decide (n<1)=false:=decide_eq_false oM
  have t2:decide (n>(s.cls.length:Int))=true:=decide_eq_true oM
  refine zg [] [true] [(bif decide (n<(1:Int)) then true else decide (n>(s.cls.length:Int)))=true] (oN sO) ?_
  exact zb []
theorem deskYes_ok (s:StT) (hs:FitS s) (src:SoT) (k:Nat) (h:k<s.cls.length):FnB Tryz.prog G 88 [deskB s src] [.c (.ptr 0 0),.c (.int .i64 ((k:Int)+1))] [.agg (encCl (s.cls.getD k .nil)),.c (.int .i64 0)] [(0,deskB s src)]:=by
 refine zf Tryz.func88 ?_
 have hc:=hs.cls
 have t1:decide ((k:Int)+1<1)=false:=decide_eq_false oM
 have t2:decide ((k:Int)+1>(s.cls.length:Int))=false:=decide_eq_false oM
 have e2:EqvD (.c (.int .i64 ((k:Int)+1-1))) (.c (.int .i64 (k:Int))):=eqvD_of (by rw [show (k:Int)+1-1=(k:Int) by omega])
 refine zg [(3,{fm:=[(6,.c (.int .i64 (k:Int)))]})] [false] [(bif decide ((k:Int)+(1:Int)<(1:Int)) then true else decide ((k:Int)+(1:Int)>(s.cls.length:Int)))=false,EqvI (.c (.int .i64 ((k:Int)+1-1))) (.c (.int .i64 (k:Int))),EqvD (.c (.int .i64 ((k:Int)+1-1))) (.c (.int .i64 (k:Int))),inR .i64 ((k:Int)+1-1),(0:Int)≤(k:Int)∧(k:Int)<(s.cls.length:Int)] ⟨aS,fun _ _=>trivial,aS,i6,(show (0:Int)≤(↑k:Int)∧(↑k:Int)<(↑s.cls.length:Int) from oM)⟩ ?_
 exact zb []
def pRec (c:Int) (w:WT) (key til:Int):RcT:=⟨1,key,til,false,c,0,0,0,w⟩
def putsT (s:StT) (src:SoT) (c:Int) (w:WT):Int×Int×StT×SoT :=
 if 1073741824<src.n∨roomK s.recs src.now 1=0 then (0,16,s,src)
 else if (putS s.recs src.now (pRec c w src.n (src.now+60))).2=0 then (src.n,0,{ s with recs:=(putS s.recs src.now (pRec c w src.n (src.now+60))).1 },{ src with n:=src.n+1 })
 else (0,(putS s.recs src.now (pRec c w src.n (src.now+60))).2,s,src)
theorem puts_ok (s:StT) (hs:FitS s) (src:SoT) (hf:FitR src) (hr:s.recs.length≤100000) (c:Int) (w:WT):FnB Tryz.prog G 89 [deskB s src] [.c (.ptr 0 0),.agg (encRc (pRec c w 0 0))] [.c (.int .i64 (putsT s src c w).1),.c (.int .i64 (putsT s src c w).2.1)] [(0,deskB (putsT s src c w).2.2.1 (putsT s src c w).2.2.2)]:=by
 refine zf Tryz.func89 ?_
 have h0:=hf.now0
 have h1:=hf.now1
 have h2:=hf.n
 have c2:=room_ok (G:=G) s.recs src.now 1 oM
 have c3:Pur Tryz.prog G 142 [.c (.int .i64 1)] [.c (.int .i64 60)]:=life_ok (G:=G) 1
 have c4:=until_ok (G:=G) src.now 60 h0 h1 dC dC
 have c5:=storePut_ok (G:=G) s.recs src.now (pRec c w src.n (src.now+60)) hr
 unfold putsT
 by_cases hn:1073741824<src.n
 ·rw [if_pos (.inl hn)]
  have c1:=nonce_no (G:=G) src hn
  refine zg [(1,{cs:=[(4,pc c1)]}),(2,{grd:=[(3,false),(4,false),(5,false),(6,false),(7,false),(8,false),(9,false),(10,false),(11,false),(12,false),(13,false),(14,false),(15,false),(16,false),(17,true)]})] [true] [(!false) = !false,(!false) = !false,(!false) = !false,(!false) = !false,(!false) = !false,(!false) = !false,(!false) = !false,(!false) = !false,(!false) = !false,(!false) = !false,(!false) = !false,(!false) = !false,(!false) = !false,(!false) = !false,(!false)=true,true=true] ⟨rfl,rfl,rfl,rfl,rfl,rfl,rfl,rfl,rfl,rfl,rfl,rfl,rfl,rfl,rfl,rfl⟩ ?_
  exact zb []
 ·have c1:=nonce_ok (G:=G) src oM h2
  by_cases hk:roomK s.recs src.now 1=0
  ·rw [if_pos (.inr hk)]
   rw [hk] at c2
   refine zg [(1,{cs:=[(4,pc c1)]}),(2,{cs:=[(15,pc c2)]})] [true] [(bif !true then true else (0:Int)==(0:Int))=true] rfl ?_
   exact zb []
  ·rw [if_neg (by rintro (h | h);exact hn h;exact hk h)]
   have t2:(roomK s.recs src.now 1==0)=false:=by simp [hk]
   generalize roomK s.recs src.now 1=z at c2 t2
   generalize hp:putS s.recs src.now (pRec c w src.n (src.now+60))=p at c5 ⊢
   obtain ⟨l,e⟩:=p
   by_cases he:e=0
   ·subst he
    rw [if_pos rfl]
    refine zg [(1,{cs:=[(4,pc c1)]}),(2,{cs:=[(15,pc c2)]}),(4,{cs:=[(8,pc c3),(9,pc c4)]}),(5,{cs:=[(11,pc c5)]})] [false,false] [(bif !true then true else z==(0:Int))=false,((0:Int) != (0:Int))=false] ⟨aS,rfl⟩ ?_
    exact zb []
   ·rw [if_neg he]
    have t3:(e != 0)=true:=by simp [he]
    refine zg [(1,{cs:=[(4,pc c1)]}),(2,{cs:=[(15,pc c2)]}),(4,{cs:=[(8,pc c3),(9,pc c4)]}),(5,{cs:=[(11,pc c5)]})] [false,true] [(bif !true then true else z==(0:Int))=false,(e != (0:Int))=true] ⟨aS,(show (e != (0:Int))=true from aS)⟩ ?_
    exact zb []
def pushT (s:StT) (src:SoT) (n:Int) (w:WT):StT×SoT×Int×Int :=
 if n<1∨(s.cls.length:Int)<n then (s,src,0,9)
 else if chkT (s.cls.getD (n-1).toNat .nil) w=0 then ((putsT s src n w).2.2.1,(putsT s src n w).2.2.2,(putsT s src n w).1,(putsT s src n w).2.1)
 else (s,src,0,chkT (s.cls.getD (n-1).toNat .nil) w)
theorem push_ok {m:Int} (hG:G 3=some [.int .i64 m]) (s:StT) (hs:FitS s) (hr:s.recs.length≤100000) (src:SoT) (hf:FitR src) (n:Int) (w:WT) (hw:FitW w):Pur Tryz.prog G 43 [.agg (encSt s),.agg (encSo src),.c (.int .i64 n),.agg (encW w)] [.agg (encSt (pushT s src n w).1),.agg (encSo (pushT s src n w).2.1),.c (.int .i64 (pushT s src n w).2.2.1),.c (.int .i64 (pushT s src n w).2.2.2)]:=by
 refine zp Tryz.func43 ?_
 have c1:=ownState_ok (G:=G) s hs
 unfold pushT
 by_cases h:n<1∨(s.cls.length:Int)<n
 ·rw [if_pos h]
  have c2:=deskNo_ok (G:=G) s hs src n h
  clear h
  refine zg [(1,{cs:=[(1,pc c1)]}),(2,{cs:=[(2,cb [176] c2)]})] [false,false] [((9:Int)==(0:Int))=false,((9:Int)==(0:Int))=false] ⟨rfl,rfl⟩ ?_
  exact zr
 ·rw [if_neg h]
  obtain ⟨k,rfl⟩:∃ k:Nat,n=(k:Int)+1:=⟨(n-1).toNat,by omega⟩
  rw [show (k:Int)+1-1=(k:Int) by omega,Int.toNat_natCast]
  have c2:=deskYes_ok (G:=G) s hs src k oM
  have c3:=check_ok hG (s.cls.getD k .nil) w (hs.cl k) hw
  have c4:=puts_ok (G:=G) s hs src hf hr ((k:Int)+1) w
  generalize s.cls.getD k .nil=c at c2 c3 ⊢
  by_cases he:chkT c w=0
  ·rw [if_pos he]
   rw [he] at c3
   generalize putsT s src ((k:Int)+1) w=p at c4 ⊢
   obtain ⟨key,e,s2,src2⟩:=p
   clear he h
   refine zg [(1,{cs:=[(1,pc c1)]}),(2,{cs:=[(2,cb [176] c2)]}),(4,{cs:=[(2,pc c3)]}),(7,{cs:=[(4,cb [176] c4)]})] [true,true] [((0:Int)==(0:Int))=true,((0:Int)==(0:Int))=true] ⟨rfl,rfl⟩ ?_
   exact zr
  ·rw [if_neg he]
   have t1:(chkT c w==0)=false:=by simp [he]
   generalize chkT c w=e at c3 t1 ⊢
   clear he h c4
   refine zg [(1,{cs:=[(1,pc c1)]}),(2,{cs:=[(2,cb [176] c2)]}),(4,{cs:=[(2,pc c3)]})] [true,false] [((0:Int)==(0:Int))=true,(e==(0:Int))=false] ⟨rfl,(show (e==(0:Int))=false from aS)⟩ ?_
   exact zr
theorem put19_ok (l:List RcT) (now:Int) (r:RcT) (hl:l.length≤100000):Pur Tryz.prog G 92 [.c (rcS l),.c (.int .i64 now),.agg (encRc r)] [.c (rcS (putS l now r).1),.c (.int .i64 (putS l now r).2)]:=by
 refine zp Tryz.func92 ?_
 have hll:=live_len now l
 have c1:=live19R_ok (G:=G) l now oM
 have c2:=most19A_ok (G:=G) r.kind
 have c4:=room19_ok (G:=G) l now r.kind oM
 unfold putS
 by_cases h1:mostT r.kind=0
 ·rw [if_pos h1]
  rw [h1] at c2
  refine zg [(1,{cs:=[(2,pc c2)]})] [true] [((0:Int)==(0:Int))=true] rfl ?_
  exact zr
 ·rw [if_neg h1]
  have t1:(mostT r.kind==0)=false:=by simp [h1]
  generalize mostT r.kind=mk at c2 t1
  generalize liveT now l=v at c1 hll ⊢
  clear h1
  refine zg [(1,{cs:=[(2,pc c2)]}),(3,{cs:=[(2,cb [] c1)]})] [false] [(mk==0)=false] t1 ?_
  refine zl (fun (k:Nat)=>⟨[(0,.v (.c (rcS l))),(1,.v (.c (.int .i64 now))),(5,.v (.c (.ptr 0 0))),(8,.v (.c (.row 15 144 0 v.length))),(9,.v (.c (.int .i64 (k:Int))))],[(0,.box 84 (encRc r)),(144,.row 84 15 v.length (rowF encRc .nil v))],192⟩) (fun k=>k≤v.length∧∀ i,i<k→((v.getD i .nil).key==r.key)=false) (fun k=>v.length-k) 0 ⟨Nat.zero_le _,fun _ h=>absurd h (Nat.not_lt_zero _)⟩ ?_
  intro k L ⟨hk,hall⟩ again
  rcases Nat.lt_or_ge k v.length with hlt | hge
  ·cases hq:((v.getD k .nil).key==r.key) with
   | true =>
    have ha:v.any (fun x=>x.key==r.key)=true:=List.any_eq_true.2 ⟨v.getD k .nil,by simp [List.getD,hlt],hq⟩
    rw [if_pos ha]
    have hq0:((v.getD (0+k) .nil).key==r.key)=true:=by rw [Nat.zero_add];exact hq
    clear ha hall
    refine zg [] [true,true] [decide ((k:Int)<(v.length:Int))=true,(0:Int)≤(k:Int)∧(k:Int)<(v.length:Int),0+k<v.length,((v.getD (0+k) RcT.nil).key==r.key)=true] ⟨sO,oM,oM,(show ((v.getD ((0:Nat)+k) RcT.nil).key==r.key)=true from aS)⟩ ?_
    exact zr
   | false =>
    have hq0:((v.getD (0+k) .nil).key==r.key)=false:=by rw [Nat.zero_add];exact hq
    have hall':∀ i,i<k+1→((v.getD i .nil).key==r.key)=false:=fun i hi=>by
     rcases Nat.lt_or_ge i k with h | h
     ·exact hall i h
     ·rw [show i=k by omega];exact hq
    clear hall hq
    refine zg [] [true,false] [decide ((k:Int)<(v.length:Int))=true,(0:Int)≤(k:Int)∧(k:Int)<(v.length:Int),0+k<v.length,((v.getD (0+k) RcT.nil).key==r.key)=false,inR .i64 ((k:Int)+1)] ⟨sO,oM,oM,aS,i6⟩ ?_
    exact za [] (again _ (k+1) ⟨aS,aS⟩ oM)
  ·have ha:v.any (fun x=>x.key==r.key)=false:=List.any_eq_false.2 fun x hx=>by
    obtain ⟨i,hi,rfl⟩:=List.getElem_of_mem hx
    have:=hall i oM
    simp only [List.getD,List.getElem?_eq_getElem hi,Option.getD_some] at this
    simp [this]
   rw [ha,if_neg (by simp)]
   clear ha hall
   by_cases h3:roomK l now r.kind=0
   ·rw [if_pos h3]
    rw [h3] at c4
    refine zg [(9,{cs:=[(4,pc c4)]})] [false,true] [decide ((k:Int)<(v.length:Int))=false,((0:Int)==(0:Int))=true] ⟨sO,rfl⟩ ?_
    exact zr
   ·rw [if_neg h3]
    have t3:(roomK l now r.kind==0)=false:=by simp [h3]
    have e1:BlkEqv (.row 84 15 (v.length+1) (catF v.length (rowF encRc .nil v) (fun i j=>nthD (encRc r) ((0+i)*15+j)))) (.row 84 15 (v.length+1) (rowF encRc .nil (v++[r]))):=enc_app v r rfl
    refine zg [(11,{bs:=[(3,.row 84 15 (v.length+1) (rowF encRc .nil (v++[r])))]}),(9,{cs:=[(4,pc c4)]})] [false,false] [decide ((k:Int)<(v.length:Int))=false,(roomK l now r.kind==(0:Int))=false,(v.length+1)*176≤140737488355328,BlkEqv (.row 84 15 (v.length+1) (catF v.length (rowF encRc RcT.nil v) fun i j=>nthD (encRc r) ((0+i)*15+j))) (.row 84 15 (v.length+1) (rowF encRc RcT.nil (v++[r]))),v.length≤v.length,0+1≤1] ⟨sO,aS,oM,aS,oM,(show (0:Nat)+(1:Nat)≤(1:Nat) from oM)⟩ ?_
    refine Wp.ent' kR (Ent.pubT (t:=6) (e:=84) (sz:=(15:Nat)) (id:=400) (off:=(0:Nat)) (m:=v.length+(1:Nat)) (n:=v.length+(1:Nat)) (f:=rowF encRc RcT.nil (v++[r])) (m':=(v++[r]).length) (f':=fun (i j:Nat)=>nthD [Cell.int .i64 ((v++[r]).getD i RcT.nil).kind,Cell.int .i64 ((v++[r]).getD i RcT.nil).key,Cell.int .i64 ((v++[r]).getD i RcT.nil).til,Cell.bool ((v++[r]).getD i RcT.nil).used,Cell.int .i64 ((v++[r]).getD i RcT.nil).client,Cell.int .i64 ((v++[r]).getD i RcT.nil).user,Cell.int .i64 ((v++[r]).getD i RcT.nil).sess,Cell.int .i64 ((v++[r]).getD i RcT.nil).fam,Cell.str ((v++[r]).getD i RcT.nil).w.ty,Cell.str ((v++[r]).getD i RcT.nil).w.redir,Cell.str ((v++[r]).getD i RcT.nil).w.scope,Cell.str ((v++[r]).getD i RcT.nil).w.state,Cell.str ((v++[r]).getD i RcT.nil).w.nonce,Cell.str ((v++[r]).getD i RcT.nil).w.chal,Cell.str ((v++[r]).getD i RcT.nil).w.meth] j) kR kR oM (by simp) (fun i _ j _=>by rw [Nat.zero_add];rfl) rfl) ?_
    exact zr
theorem fitC_base (k:Nat):FitC (baseC.getD k .nil):=by
 match k with
 | 0=>exact ⟨by decide,by decide⟩
 | 1=>exact ⟨by decide,by decide⟩
 | 2=>exact ⟨by decide,by decide⟩
 | k+3=>exact ⟨by show (0:Nat)<_; decide,by show (0:Nat)<_; decide⟩
theorem fitS_base:FitS baseT:=⟨by decide,by decide,by decide,fitC_base⟩
theorem scMore_len (ns:List Int):∀ (k a:Nat) (s:List UInt8),(scMore ns k a s).1.length≤s.length+9*k
 | 0,_,_=>by simp [scMore]
 | k+1,a,s=>by
  have h1:=pickT_le 2 sepsS kR ns a
  have h2:=pickT_le 7 wrdsS kR ns (nextA ns a 5)
  have:=scMore_len ns k (nextA ns (nextA ns a 5) 8) (s++pickT sepsS ns a++pickT wrdsS ns (nextA ns a 5))
  simp only [List.length_append] at this
  rw [scMore];omega
theorem scopT_len (ns:List Int) (a:Nat):(scopT ns a).1.length≤40:=by
 have h1:=pickT_le 7 heads kR ns a
 have h2:=nextV_rng ns (nextA ns a 4) 4 dC
 have:=scMore_len ns (nextV ns (nextA ns a 4) 4).toNat (nextA ns (nextA ns a 4) 4) (pickT heads ns a)
 unfold scopT;omega
theorem red_len (x:Int):(rightR.getD x.toNat []).length≤20:=by
 match x.toNat with
 | 0=>decide
 | 1=>decide
 | 2=>decide
 | k+3=>simp [rightR]
structure Fit4 (w:WT):Prop where
 ty:w.ty.length≤400
 redir:w.redir.length≤400
 scope:w.scope.length≤400
 state:w.state.length≤400
 nonce:w.nonce.length≤400
 chal:w.chal.length≤400
 meth:w.meth.length≤400
theorem Fit4.fit {w:WT} (h:Fit4 w):FitW w:=⟨by have:=h.redir;omega,by have:=h.scope;omega,by have:=h.state;omega,by have:=h.nonce;omega,by have:=h.chal;omega⟩
theorem fit_right (n m:Int):Fit4 { rightT n with chal:=chalT m }:=⟨by show 4≤400;decide,by have:=red_len (withT (n-1) 3);show (rightR.getD (withT (n-1) 3).toNat []).length≤400;omega,by show 6≤400;decide,by show ([115]++keyT n).length≤400;rw [List.length_append,key_len];decide,by show 1≤400;decide,by show (chalT m).length≤400;rw [chalT_len];decide,by show 4≤400;decide⟩
theorem fit_want (ns:List Int) (a:Nat) (n:Int):Fit4 (wantT ns a n).1:=by
 have h:=fit_right n (30+withT (nextV ns a 3) 3)
 have hs:=scopT_len ns (nextA ns (nextA ns a 3) 16)
 unfold wantT
 simp only []
 generalize nextA ns (nextA ns a 3) 16=a2 at hs ⊢
 split
 ·exact { h with ty:=Nat.le_trans (pickT_le 5 _ kR ns a2) dC }
 split
 ·exact { h with redir:=Nat.le_trans (pickT_le 20 redW kR ns a2) dC }
 split
 ·exact { h with scope:=Nat.le_trans hs dC }
 split
 ·exact { h with state:=Nat.le_trans (pickT_le 5 _ kR ns a2) dC }
 split
 ·exact { h with nonce:=Nat.le_trans (pickT_le 5 _ kR ns a2) dC }
 split
 ·exact { h with chal:=Nat.le_trans (pickT_le 9 _ kR ns a2) dC }
 split
 ·exact { h with meth:=Nat.le_trans (pickT_le 5 _ kR ns a2) dC }
 split
 ·exact { h with scope:=by show 8≤400;decide,nonce:=by show (keyT 9).length≤400;rw [key_len];decide }
 ·exact h
theorem push1:pushT baseT src0 1 (rightT 1)=({ baseT with recs:=[pRec 1 (rightT 1) 100 60] },⟨101,1,0⟩,100,0):=by kernel_rfl
theorem chk1:chkT (baseC.getD 0 .nil) (rightT 1)=0:=by kernel_rfl
theorem chk1b:chkT (baseC.getD 0 .nil) { rightT 1 with ty:=[116,111,107,101,110] }=11:=by kernel_rfl
theorem known20_ok {m:Int} (hG:G 3=some [.int .i64 m]):Pur Tryz.prog G 34 [] [.c (.bool true)]:=by
 refine zp Tryz.func34 ?_
 have c1:=base_ok (G:=G)
 have c2:=right_ok (G:=G) 1 dC dC
 have hw:FitW (rightT 1):=(fit_right 1 (30+withT 1 3)).fit
 have c3:=push_ok hG baseT fitS_base dC src0 ⟨by decide,by decide,by decide⟩ 1 (rightT 1) hw
 rw [push1] at c3
 have c4:=check_ok hG (baseC.getD 0 .nil) (rightT 1) (fitC_base 0) hw
 rw [chk1] at c4
 have c5:=check_ok hG (baseC.getD 0 .nil) { rightT 1 with ty:=[116,111,107,101,110] } (fitC_base 0) ⟨hw.redir,hw.scope,hw.state,hw.nonce,hw.chal⟩
 rw [chk1b] at c5
 refine zg [(1,{cs:=[(0,pc c1)]}),(2,{cs:=[(2,pc c2),(3,pc c3)]}),(3,{cs:=[(0,pc c2)]}),(5,{cs:=[(22,pc c2),(23,pc c4),(32,pc c5)]})] [] [(bif bif bif (0:Int)==(0:Int) then (100:Int)==(100:Int) else false then (101:Int)==(101:Int) else false then (↑(1:Nat):Int)==(1:Int) else false)=true→(0:Int)≤(0:Int)∧(0:Int)<(baseT.cls.length:Int),(bif bif bif bif (0:Int)==(0:Int) then (100:Int)==(100:Int) else false then (101:Int)==(101:Int) else false then (↑(1:Nat):Int)==(1:Int) else false then (0:Int)==(0:Int) else false)=true→(0:Int)≤(0:Int)∧(0:Int)<(baseT.cls.length:Int)] ⟨dC,(show (bif bif bif bif (0:Int)==(0:Int) then (100:Int)==(100:Int) else false then (101:Int)==(101:Int) else false then (↑(1:Nat):Int)==(1:Int) else false then (0:Int)==(0:Int) else false)=true→(0:Int)≤(0:Int)∧(0:Int)<(↑baseT.cls.length:Int) from dC)⟩ ?_
 exact zr
theorem chkR (k:Nat) (h:k<3):chkT (baseC.getD k .nil) (rightT ((k:Int)+1))=0:=by
 match k,h with
 | 0,_=>exact (by kernel_rfl:chkT (baseC.getD 0 .nil) (rightT ((0:Nat)+1:Int))=0)
 | 1,_=>exact (by kernel_rfl:chkT (baseC.getD 1 .nil) (rightT ((1:Nat)+1:Int))=0)
 | 2,_=>exact (by kernel_rfl:chkT (baseC.getD 2 .nil) (rightT ((2:Nat)+1:Int))=0)
def Gn (m:Int):Nat→Option (List Cell)
 | 3=>some [.int .i64 m]
 | _=>none
theorem Gn_len (m:Int):Gn m 3=some [.int .i64 m]:=rfl
theorem push20_ok (s:StT) (hs:FitS s) (hr:s.recs.length≤100000) (src:SoT) (hf:FitR src) (n:Int) (w:WT) (hw:FitW w):Pur Tryz.prog G 44 [.agg (encSt s),.agg (encSo src),.c (.int .i64 n),.agg (encW w)] [.agg (encSt (pushT s src n w).1),.agg (encSo (pushT s src n w).2.1),.c (.int .i64 (pushT s src n w).2.2.1),.c (.int .i64 (pushT s src n w).2.2.2)]:=by
 have h0:=hf.now0
 have h1:=hf.now1
 have h2:=hf.n
 have hc:=hs.cls
 refine zp Tryz.func44 ?_
 unfold pushT
 by_cases h:n<1∨(s.cls.length:Int)<n
 ·rw [if_pos h]
  rcases h with h | h
  ·have t1:decide (n<1)=true:=decide_eq_true h
   refine zg [] [true] [(bif decide (n<(1:Int)) then true else decide (n>(s.cls.length:Int)))=true] (oN sO) ?_
   exact zr
  ·have t1:decide (n<1)=false:=decide_eq_false oM
   have t2:decide (n>(s.cls.length:Int))=true:=decide_eq_true oM
   refine zg [] [true] [(bif decide (n<(1:Int)) then true else decide (n>(s.cls.length:Int)))=true] (oN sO) ?_
   exact zr
 ·rw [if_neg h]
  obtain ⟨k,rfl⟩:∃ k:Nat,n=(k:Int)+1:=⟨(n-1).toNat,by omega⟩
  have hkl:k<s.cls.length:=by omega
  rw [show (k:Int)+1-1=(k:Int) by omega,Int.toNat_natCast]
  have t1:decide ((k:Int)+1<1)=false:=decide_eq_false oM
  have t2:decide ((k:Int)+1>(s.cls.length:Int))=false:=decide_eq_false oM
  have e2:EqvD (.c (.int .i64 ((k:Int)+1-1))) (.c (.int .i64 (k:Int))):=eqvD_of (by rw [show (k:Int)+1-1=(k:Int) by omega])
  have c3:=check20_ok (G:=G) (s.cls.getD k .nil) w (hs.cl k) hw
  have c4:=room19_ok (G:=G) s.recs src.now 1 oM
  have c5:Pur Tryz.prog G 94 [.c (.int .i64 1)] [.c (.int .i64 60)]:=life19A_ok (G:=G) 1
  have c6:=until5_ok (G:=G) src.now 60 h0 h1 dC dC
  have c7:=put19_ok (G:=G) s.recs src.now (pRec ((k:Int)+1) w src.n (src.now+60)) hr
  clear h
  unfold putsT
  by_cases hn:1073741824<src.n
  ·have c1:=nonce5_no (G:=G) src hn
   by_cases he:chkT (s.cls.getD k .nil) w=0
   ·rw [if_pos he,if_pos (.inl hn)]
    rw [he] at c3
    clear he
    refine zg [(3,{cs:=[(7,pc c3)],fm:=[(3,.c (.int .i64 (k:Int)))]}),(4,{cs:=[(1,pc c1)]}),(5,{cs:=[(10,pc c4)]})] [false,true,true] [(bif decide ((k:Int)+(1:Int)<(1:Int)) then true else decide ((k:Int)+(1:Int)>(s.cls.length:Int)))=false,EqvI (.c (.int .i64 ((k:Int)+1-1))) (.c (.int .i64 (k:Int))),EqvD (.c (.int .i64 ((k:Int)+1-1))) (.c (.int .i64 (k:Int))),inR .i64 ((k:Int)+1-1),(0:Int)≤(k:Int)∧(k:Int)<(s.cls.length:Int),(bif (0:Int)==(0:Int) then bif !false then true else roomK s.recs src.now (1:Int)==(0:Int) else false)=true,((16:Int) != (0:Int))=true] ⟨aS,fun _ _=>trivial,aS,i6,oM,rfl,rfl⟩ ?_
    exact zr
   ·rw [if_neg he]
    have t3:(chkT (s.cls.getD k .nil) w==0)=false:=beq_eq_false_iff_ne.2 he
    have t4:(chkT (s.cls.getD k .nil) w != 0)=true:=bne_iff_ne.2 he
    generalize chkT (s.cls.getD k .nil) w=e at c3 t3 t4 ⊢
    clear he
    refine zg [(3,{cs:=[(7,pc c3)],fm:=[(3,.c (.int .i64 (k:Int)))]}),(4,{cs:=[(1,pc c1)]}),(5,{cs:=[(10,pc c4)]})] [false,false,true] [(bif decide ((k:Int)+(1:Int)<(1:Int)) then true else decide ((k:Int)+(1:Int)>(s.cls.length:Int)))=false,EqvI (.c (.int .i64 ((k:Int)+1-1))) (.c (.int .i64 (k:Int))),EqvD (.c (.int .i64 ((k:Int)+1-1))) (.c (.int .i64 (k:Int))),inR .i64 ((k:Int)+1-1),(0:Int)≤(k:Int)∧(k:Int)<(s.cls.length:Int),(bif e==(0:Int) then bif !false then true else roomK s.recs src.now (1:Int)==(0:Int) else false)=false,(e != (0:Int))=true] ⟨aS,fun _ _=>trivial,aS,i6,oM,(by simp_all<;>omega),(show (e != (0:Int))=true from aS)⟩ ?_
    exact zr
  ·have c1:Pur Tryz.prog G 90 [.agg (encSo src)] [.c (.int .i64 src.n),.agg [.int .i64 (src.n+1),.int .i64 src.conn,.int .i64 src.now],.c (.bool true)]:=nonce5_ok (G:=G) src oM h2
   by_cases he:chkT (s.cls.getD k .nil) w=0
   ·rw [if_pos he]
    rw [he] at c3
    clear he
    by_cases hk:roomK s.recs src.now 1=0
    ·rw [if_pos (.inr hk)]
     rw [hk] at c4
     refine zg [(3,{cs:=[(7,pc c3)],fm:=[(3,.c (.int .i64 (k:Int)))]}),(4,{cs:=[(1,pc c1)]}),(5,{cs:=[(10,pc c4)]})] [false,true,true] [(bif decide ((k:Int)+(1:Int)<(1:Int)) then true else decide ((k:Int)+(1:Int)>(s.cls.length:Int)))=false,EqvI (.c (.int .i64 ((k:Int)+1-1))) (.c (.int .i64 (k:Int))),EqvD (.c (.int .i64 ((k:Int)+1-1))) (.c (.int .i64 (k:Int))),inR .i64 ((k:Int)+1-1),(0:Int)≤(k:Int)∧(k:Int)<(s.cls.length:Int),(bif (0:Int)==(0:Int) then bif !true then true else (0:Int)==(0:Int) else false)=true,((16:Int) != (0:Int))=true] ⟨aS,fun _ _=>trivial,aS,i6,oM,rfl,rfl⟩ ?_
     exact zr
    ·rw [if_neg (by rintro (h | h);exact hn h;exact hk h)]
     have t5:(roomK s.recs src.now 1==0)=false:=by simp [hk]
     generalize roomK s.recs src.now 1=z at c4 t5
     generalize hp:putS s.recs src.now (pRec ((k:Int)+1) w src.n (src.now+60))=p at c7 ⊢
     obtain ⟨l,e⟩:=p
     by_cases he:e=0
     ·subst he
      rw [if_pos rfl]
      refine zg [(3,{cs:=[(7,pc c3)],fm:=[(3,.c (.int .i64 (k:Int)))]}),(4,{cs:=[(1,pc c1)]}),(5,{cs:=[(10,pc c4)]}),(9,{cs:=[(7,pc c5),(8,pc c6),(12,pc c7)]})] [false,false,false,false] [(bif decide ((k:Int)+(1:Int)<(1:Int)) then true else decide ((k:Int)+(1:Int)>(s.cls.length:Int)))=false,EqvI (.c (.int .i64 ((k:Int)+1-1))) (.c (.int .i64 (k:Int))),EqvD (.c (.int .i64 ((k:Int)+1-1))) (.c (.int .i64 (k:Int))),inR .i64 ((k:Int)+1-1),(0:Int)≤(k:Int)∧(k:Int)<(s.cls.length:Int),(bif (0:Int)==(0:Int) then bif !true then true else z==(0:Int) else false)=false,((0:Int) != (0:Int))=false,((0:Int) != (0:Int))=false] ⟨aS,fun _ _=>trivial,aS,i6,oM,aS,rfl,rfl⟩ ?_
      exact zr
     ·rw [if_neg he]
      have t6:(e != 0)=true:=by simp [he]
      refine zg [(3,{cs:=[(7,pc c3)],fm:=[(3,.c (.int .i64 (k:Int)))]}),(4,{cs:=[(1,pc c1)]}),(5,{cs:=[(10,pc c4)]}),(9,{cs:=[(7,pc c5),(8,pc c6),(12,pc c7)]})] [false,false,false,true] [(bif decide ((k:Int)+(1:Int)<(1:Int)) then true else decide ((k:Int)+(1:Int)>(s.cls.length:Int)))=false,EqvI (.c (.int .i64 ((k:Int)+1-1))) (.c (.int .i64 (k:Int))),EqvD (.c (.int .i64 ((k:Int)+1-1))) (.c (.int .i64 (k:Int))),inR .i64 ((k:Int)+1-1),(0:Int)≤(k:Int)∧(k:Int)<(s.cls.length:Int),(bif (0:Int)==(0:Int) then bif !true then true else z==(0:Int) else false)=false,((0:Int) != (0:Int))=false,(e != (0:Int))=true] ⟨aS,fun _ _=>trivial,aS,i6,oM,aS,rfl,(show (e != (0:Int))=true from aS)⟩ ?_
      exact zr
   ·rw [if_neg he]
    have t3:(chkT (s.cls.getD k .nil) w==0)=false:=beq_eq_false_iff_ne.2 he
    have t4:(chkT (s.cls.getD k .nil) w != 0)=true:=bne_iff_ne.2 he
    generalize chkT (s.cls.getD k .nil) w=e at c3 t3 t4 ⊢
    clear he
    refine zg [(3,{cs:=[(7,pc c3)],fm:=[(3,.c (.int .i64 (k:Int)))]}),(4,{cs:=[(1,pc c1)]}),(5,{cs:=[(10,pc c4)]})] [false,false,true] [(bif decide ((k:Int)+(1:Int)<(1:Int)) then true else decide ((k:Int)+(1:Int)>(s.cls.length:Int)))=false,EqvI (.c (.int .i64 ((k:Int)+1-1))) (.c (.int .i64 (k:Int))),EqvD (.c (.int .i64 ((k:Int)+1-1))) (.c (.int .i64 (k:Int))),inR .i64 ((k:Int)+1-1),(0:Int)≤(k:Int)∧(k:Int)<(s.cls.length:Int),(bif e==(0:Int) then bif !true then true else roomK s.recs src.now (1:Int)==(0:Int) else false)=false,(e != (0:Int))=true] ⟨aS,fun _ _=>trivial,aS,i6,oM,(by simp_all<;>omega),(show (e != (0:Int))=true from aS)⟩ ?_
    exact zr
theorem same19_ok (l:List RcT) (hl:l.length≤1000000):Pur Tryz.prog G 97 [.c (rcS l),.c (rcS l)] [.c (.bool true)]:=by
 refine zp Tryz.func97 ?_
 have t0:((l.length:Int) != (l.length:Int))=false:=by simp
 refine zg [] [false] [((l.length:Int) != (l.length:Int))=false] t0 ?_
 refine zl (fun (k:Nat)=>⟨[(0,.v (.c (rcS l))),(1,.v (.c (rcS l))),(5,.v (.c (.int .i64 (k:Int))))],[],112⟩) (fun k=>k≤l.length) (fun k=>l.length-k) 0 (Nat.zero_le _) ?_
 intro k L hk again
 rcases Nat.lt_or_ge k l.length with hlt | hge
 ·refine zg [] [true,false] [decide ((k:Int)<(l.length:Int))=true,(0:Int)≤(k:Int)∧(k:Int)<(l.length:Int),(0:Int)≤(k:Int)∧(k:Int)<(l.length:Int),(!((l.getD k .nil).kind==(l.getD k .nil).kind&&((l.getD k .nil).key==(l.getD k .nil).key&&((l.getD k .nil).til==(l.getD k .nil).til&&((l.getD k .nil).used==(l.getD k .nil).used&&((l.getD k .nil).client==(l.getD k .nil).client&&((l.getD k .nil).user==(l.getD k .nil).user&&((l.getD k .nil).sess==(l.getD k .nil).sess&&((l.getD k .nil).fam==(l.getD k .nil).fam&&((l.getD k .nil).w.ty==(l.getD k .nil).w.ty&&((l.getD k .nil).w.redir==(l.getD k .nil).w.redir&&((l.getD k .nil).w.scope==(l.getD k .nil).w.scope&&((l.getD k .nil).w.state==(l.getD k .nil).w.state&&((l.getD k .nil).w.nonce==(l.getD k .nil).w.nonce&&((l.getD k .nil).w.chal==(l.getD k .nil).w.chal&&((l.getD k .nil).w.meth==(l.getD k .nil).w.meth&&true))))))&&true))))))))))=false,inR .i64 ((k:Int)+1)] ⟨sO,oM,oM,(by simp;done),i6⟩ ?_
  exact za [] (again _ (k+1) aS oM)
 ·refine zg [] [false] [decide ((k:Int)<(l.length:Int))=false] (oN sO) ?_
  exact zr
theorem users20_ok (l:List UsT) (hl:l.length≤1000000):Pur Tryz.prog G 96 [.c (usS l),.c (usS l)] [.c (.bool true)]:=by
 refine zp Tryz.func96 ?_
 have t0:((l.length:Int) != (l.length:Int))=false:=by simp
 refine zg [] [false] [((l.length:Int) != (l.length:Int))=false] t0 ?_
 refine zl (fun (k:Nat)=>⟨[(0,.v (.c (usS l))),(1,.v (.c (usS l))),(5,.v (.c (.int .i64 (k:Int))))],[],112⟩) (fun k=>k≤l.length) (fun k=>l.length-k) 0 (Nat.zero_le _) ?_
 intro k L hk again
 rcases Nat.lt_or_ge k l.length with hlt | hge
 ·refine zg [] [true,false] [decide ((k:Int)<(l.length:Int))=true,(0:Int)≤(k:Int)∧(k:Int)<(l.length:Int),(0:Int)≤(k:Int)∧(k:Int)<(l.length:Int),(!((l.getD k .nil).name==(l.getD k .nil).name&&((l.getD k .nil).pass==(l.getD k .nil).pass&&true)))=false,inR .i64 ((k:Int)+1)] ⟨sO,oM,oM,(by simp;done),i6⟩ ?_
  exact za [] (again _ (k+1) aS oM)
 ·refine zg [] [false] [decide ((k:Int)<(l.length:Int))=false] (oN sO) ?_
  exact zr
theorem clients20_ok (l:List ClT) (hl:l.length≤1000000) (hc:∀ k,(l.getD k .nil).reds.length<1000000000):Pur Tryz.prog G 95 [.c (clS l),.c (clS l)] [.c (.bool true)]:=by
 refine zp Tryz.func95 ?_
 have t0:((l.length:Int) != (l.length:Int))=false:=by simp
 refine zg [] [false] [((l.length:Int) != (l.length:Int))=false] t0 ?_
 refine zl (fun (k:Nat)=>⟨[(0,.v (.c (clS l))),(1,.v (.c (clS l))),(5,.v (.c (.int .i64 (k:Int))))],[],112⟩) (fun k=>k≤l.length) (fun k=>l.length-k) 0 (Nat.zero_le _) ?_
 intro k L hk again
 rcases Nat.lt_or_ge k l.length with hlt | hge
 ·have hck:=hc k
  refine zg [] [true,false] [decide ((k:Int)<(l.length:Int))=true,(0:Int)≤(k:Int)∧(k:Int)<(l.length:Int),(0:Int)≤(k:Int)∧(k:Int)<(l.length:Int),(!(l.getD k .nil).id==(l.getD k .nil).id)=false→(0:Int)≤(k:Int)∧(k:Int)<(l.length:Int),(!(l.getD k .nil).id==(l.getD k .nil).id)=false→(0:Int)≤(k:Int)∧(k:Int)<(l.length:Int),(bif !(l.getD k .nil).id==(l.getD k .nil).id then true else (l.getD k .nil).secret != (l.getD k .nil).secret)=false→(0:Int)≤(k:Int)∧(k:Int)<(l.length:Int),(bif !(l.getD k .nil).id==(l.getD k .nil).id then true else (l.getD k .nil).secret != (l.getD k .nil).secret)=false→(0:Int)≤(k:Int)∧(k:Int)<(l.length:Int),(bif bif !(l.getD k .nil).id==(l.getD k .nil).id then true else (l.getD k .nil).secret != (l.getD k .nil).secret then true else !(l.getD k .nil).scope==(l.getD k .nil).scope)=false→(0:Int)≤(k:Int)∧(k:Int)<(l.length:Int),(bif bif !(l.getD k .nil).id==(l.getD k .nil).id then true else (l.getD k .nil).secret != (l.getD k .nil).secret then true else !(l.getD k .nil).scope==(l.getD k .nil).scope)=false→(0:Int)≤(k:Int)∧(k:Int)<(l.length:Int),(bif bif bif !(l.getD k .nil).id==(l.getD k .nil).id then true else (l.getD k .nil).secret != (l.getD k .nil).secret then true else !(l.getD k .nil).scope==(l.getD k .nil).scope then true else (↑(l.getD k .nil).reds.length:Int) != (↑(l.getD k .nil).reds.length:Int))=false] ⟨sO,oM,oM,oM,oM,oM,oM,oM,oM,(show (bif bif bif !(l.getD k .nil).id==(l.getD k .nil).id then true else (l.getD k .nil).secret != (l.getD k .nil).secret then true else !(l.getD k .nil).scope==(l.getD k .nil).scope then true else (↑(l.getD k .nil).reds.length:Int) != (↑(l.getD k .nil).reds.length:Int))=false from (by simp;done))⟩ ?_
  refine zl (fun (q:Nat)=>⟨[(0,.v (.c (clS l))),(1,.v (.c (clS l))),(5,.v (.c (.int .i64 (k:Int)))),(6,.v (.c (.int .i64 (q:Int))))],[],1024⟩) (fun q=>q≤(l.getD k .nil).reds.length) (fun q=>(l.getD k .nil).reds.length-q) 0 (Nat.zero_le _) ?_
  intro q L2 hq again2
  rcases Nat.lt_or_ge q (l.getD k .nil).reds.length with hlt2 | hge2
  ·have again:=again2
   refine zg [] [true,false] [(0:Int)≤(k:Int)∧(k:Int)<(l.length:Int),decide ((q:Int)<(↑(l.getD k .nil).reds.length:Int))=true,(0:Int)≤(k:Int)∧(k:Int)<(l.length:Int),(0:Int)≤(q:Int)∧(q:Int)<(↑(l.getD k .nil).reds.length:Int),(0:Int)≤(k:Int)∧(k:Int)<(l.length:Int),(0:Int)≤(q:Int)∧(q:Int)<(↑(l.getD k .nil).reds.length:Int),(!(l.getD k .nil).reds.getD q []==(l.getD k .nil).reds.getD q [])=false,inR .i64 ((q:Int)+1)] ⟨oM,(by simp_all<;>omega),oM,oM,oM,oM,(by simp;done),i6⟩ ?_
   exact za [] (again _ (q+1) aS oM)
  ·clear again2
   refine zg [] [false] [(0:Int)≤(k:Int)∧(k:Int)<(l.length:Int),decide ((q:Int)<(↑(l.getD k .nil).reds.length:Int))=false,inR .i64 ((k:Int)+1)] ⟨oM,(by simp_all<;>omega),i6⟩ ?_
   exact za [] (again _ (k+1) aS oM)
 ·refine zg [] [false] [decide ((k:Int)<(l.length:Int))=false] (oN sO) ?_
  exact zr
theorem same20_ok (s:StT) (hs:FitS s):Pur Tryz.prog G 45 [.agg (encSt s),.agg (encSt s)] [.c (.bool true)]:=by
 refine zp Tryz.func45 ?_
 have c1:=clients20_ok (G:=G) s.cls hs.cls (fun k=>(hs.cl k).reds)
 have c2:=users20_ok (G:=G) s.usr hs.usr
 have c3:=same19_ok (G:=G) s.recs hs.recs
 refine z0 [(1,{cs:=[(17,pc c1),(24,pc c2),(31,pc c3)]})] [] ?_
 exact zS [.c (.bool (bif bif bif bif s.name==s.name then s.key==s.key else false then true else false then true else false then true else false))] (by simp;done)
def rcEq (x y:RcT):Bool:=(x.kind==y.kind&&(x.key==y.key&&(x.til==y.til&&(x.used==y.used&&(x.client==y.client&&(x.user==y.user&&(x.sess==y.sess&&(x.fam==y.fam&&(x.w.ty==y.w.ty&&(x.w.redir==y.w.redir&&(x.w.scope==y.w.scope&&(x.w.state==y.w.state&&(x.w.nonce==y.w.nonce&&(x.w.chal==y.w.chal&&(x.w.meth==y.w.meth&&true)))))))))))))))
def usEq (x y:UsT):Bool:=(x.name==y.name&&(x.pass==y.pass&&true))
def clNe (x y:ClT):Bool:=bif bif bif !x.id==y.id then true else x.secret != y.secret then true else !x.scope==y.scope then true else (x.reds.length:Int) != (y.reds.length:Int)
def stEq (x y:List UInt8):Bool:=x==y
def allE {α:Type} (d:α) (p:α→α→Bool) (a b:List α):Bool:=(List.range a.length).all fun i=>p (a.getD i d) (b.getD i d)
theorem allE_no {α:Type} {d:α} {p:α→α→Bool} {a b:List α} {k:Nat} (h:k<a.length) (hp:p (a.getD k d) (b.getD k d)=false):allE d p a b=false :=
 List.all_eq_false.2 ⟨k,List.mem_range.2 h,by rw [hp];decide⟩
theorem allE_yes {α:Type} {d:α} {p:α→α→Bool} {a b:List α} (h:∀ k,k<a.length→p (a.getD k d) (b.getD k d)=true):allE d p a b=true :=
 List.all_eq_true.2 fun k hk=>h k (List.mem_range.1 hk)
def sameL {α:Type} (d:α) (p:α→α→Bool) (a b:List α):Bool:=bif (a.length:Int) != (b.length:Int) then false else allE d p a b
def clEq (x y:ClT):Bool:=bif clNe x y then false else allE [] stEq x.reds y.reds
theorem cond_t {a b:Bool} (h:(bif a then true else b)=false):a=false∧b=false:=by cases a<;>simp_all
theorem len_of {a b:Nat} (h:((a:Int) != (b:Int))=false):a=b:=by
 have:=bne_eq_false_iff_eq.1 h
 omega
theorem same19G_ok (a b:List RcT) (hl:a.length≤1000000):Pur Tryz.prog G 97 [.c (rcS a),.c (rcS b)] [.c (.bool (sameL .nil rcEq a b))]:=by
 refine zp Tryz.func97 ?_
 unfold sameL
 cases t0:((a.length:Int) != (b.length:Int)) with
 | true =>
  refine zg [] [true] [((a.length:Int) != (b.length:Int))=true] (oN aS) ?_
  exact zr
 | false =>
  have hlen:=len_of t0
  refine zg [] [false] [((a.length:Int) != (b.length:Int))=false] t0 ?_
  refine zl (fun (k:Nat)=>⟨[(0,.v (.c (rcS a))),(1,.v (.c (rcS b))),(5,.v (.c (.int .i64 (k:Int))))],[],112⟩) (fun k=>k≤a.length∧∀ i,i<k→rcEq (a.getD i .nil) (b.getD i .nil)=true) (fun k=>a.length-k) 0 ⟨Nat.zero_le _,fun _ h=>absurd h (Nat.not_lt_zero _)⟩ ?_
  intro k L ⟨hk,hall⟩ again
  rcases Nat.lt_or_ge k a.length with hlt | hge
  ·cases hq:rcEq (a.getD k .nil) (b.getD k .nil) with
   | true =>
    have hq2:(!rcEq (a.getD k .nil) (b.getD k .nil))=false:=by rw [hq];rfl
    unfold rcEq at hq2
    have hall':∀ i,i<k+1→rcEq (a.getD i .nil) (b.getD i .nil)=true:=fun i hi=>by
     rcases Nat.lt_or_ge i k with h | h
     ·exact hall i h
     ·rw [show i=k by omega];exact hq
    clear hall hq
    refine zg [] [true,false] [decide ((k:Int)<(a.length:Int))=true,(0:Int)≤(k:Int)∧(k:Int)<(a.length:Int),(0:Int)≤(k:Int)∧(k:Int)<(b.length:Int),(!((a.getD k .nil).kind==(b.getD k .nil).kind&&((a.getD k .nil).key==(b.getD k .nil).key&&((a.getD k .nil).til==(b.getD k .nil).til&&((a.getD k .nil).used==(b.getD k .nil).used&&((a.getD k .nil).client==(b.getD k .nil).client&&((a.getD k .nil).user==(b.getD k .nil).user&&((a.getD k .nil).sess==(b.getD k .nil).sess&&((a.getD k .nil).fam==(b.getD k .nil).fam&&((a.getD k .nil).w.ty==(b.getD k .nil).w.ty&&((a.getD k .nil).w.redir==(b.getD k .nil).w.redir&&((a.getD k .nil).w.scope==(b.getD k .nil).w.scope&&((a.getD k .nil).w.state==(b.getD k .nil).w.state&&((a.getD k .nil).w.nonce==(b.getD k .nil).w.nonce&&((a.getD k .nil).w.chal==(b.getD k .nil).w.chal&&((a.getD k .nil).w.meth==(b.getD k .nil).w.meth&&true))))))&&true))))))))))=false,inR .i64 ((k:Int)+1)] ⟨sO,oM,oM,(by simp_all<;>omega),i6⟩ ?_
    exact za [] (again _ (k+1) ⟨aS,aS⟩ oM)
   | false =>
    have hq2:(!rcEq (a.getD k .nil) (b.getD k .nil))=true:=by rw [hq];rfl
    unfold rcEq at hq2
    rw [allE_no hlt hq]
    clear hall hq
    refine zg [] [true,true] [decide ((k:Int)<(a.length:Int))=true,(0:Int)≤(k:Int)∧(k:Int)<(a.length:Int),(0:Int)≤(k:Int)∧(k:Int)<(b.length:Int),(!((a.getD k .nil).kind==(b.getD k .nil).kind&&((a.getD k .nil).key==(b.getD k .nil).key&&((a.getD k .nil).til==(b.getD k .nil).til&&((a.getD k .nil).used==(b.getD k .nil).used&&((a.getD k .nil).client==(b.getD k .nil).client&&((a.getD k .nil).user==(b.getD k .nil).user&&((a.getD k .nil).sess==(b.getD k .nil).sess&&((a.getD k .nil).fam==(b.getD k .nil).fam&&((a.getD k .nil).w.ty==(b.getD k .nil).w.ty&&((a.getD k .nil).w.redir==(b.getD k .nil).w.redir&&((a.getD k .nil).w.scope==(b.getD k .nil).w.scope&&((a.getD k .nil).w.state==(b.getD k .nil).w.state&&((a.getD k .nil).w.nonce==(b.getD k .nil).w.nonce&&((a.getD k .nil).w.chal==(b.getD k .nil).w.chal&&((a.getD k .nil).w.meth==(b.getD k .nil).w.meth&&true))))))&&true))))))))))=true] ⟨sO,oM,oM,(show (!((a.getD k .nil).kind==(b.getD k .nil).kind&&((a.getD k .nil).key==(b.getD k .nil).key&&((a.getD k .nil).til==(b.getD k .nil).til&&((a.getD k .nil).used==(b.getD k .nil).used&&((a.getD k .nil).client==(b.getD k .nil).client&&((a.getD k .nil).user==(b.getD k .nil).user&&((a.getD k .nil).sess==(b.getD k .nil).sess&&((a.getD k .nil).fam==(b.getD k .nil).fam&&((a.getD k .nil).w.ty==(b.getD k .nil).w.ty&&((a.getD k .nil).w.redir==(b.getD k .nil).w.redir&&((a.getD k .nil).w.scope==(b.getD k .nil).w.scope&&((a.getD k .nil).w.state==(b.getD k .nil).w.state&&((a.getD k .nil).w.nonce==(b.getD k .nil).w.nonce&&((a.getD k .nil).w.chal==(b.getD k .nil).w.chal&&((a.getD k .nil).w.meth==(b.getD k .nil).w.meth&&true))))))&&true))))))))))=true from (by simp_all<;>omega))⟩ ?_
    exact zr
  ·rw [allE_yes (fun i hi=>hall i oM)]
   clear hall
   refine zg [] [false] [decide ((k:Int)<(a.length:Int))=false] (oN sO) ?_
   exact zr
theorem users20G_ok (a b:List UsT) (hl:a.length≤1000000):Pur Tryz.prog G 96 [.c (usS a),.c (usS b)] [.c (.bool (sameL .nil usEq a b))]:=by
 refine zp Tryz.func96 ?_
 unfold sameL
 cases t0:((a.length:Int) != (b.length:Int)) with
 | true =>
  refine zg [] [true] [((a.length:Int) != (b.length:Int))=true] (oN aS) ?_
  exact zr
 | false =>
  have hlen:=len_of t0
  refine zg [] [false] [((a.length:Int) != (b.length:Int))=false] t0 ?_
  refine zl (fun (k:Nat)=>⟨[(0,.v (.c (usS a))),(1,.v (.c (usS b))),(5,.v (.c (.int .i64 (k:Int))))],[],112⟩) (fun k=>k≤a.length∧∀ i,i<k→usEq (a.getD i .nil) (b.getD i .nil)=true) (fun k=>a.length-k) 0 ⟨Nat.zero_le _,fun _ h=>absurd h (Nat.not_lt_zero _)⟩ ?_
  intro k L ⟨hk,hall⟩ again
  rcases Nat.lt_or_ge k a.length with hlt | hge
  ·cases hq:usEq (a.getD k .nil) (b.getD k .nil) with
   | true =>
    have hq2:(!usEq (a.getD k .nil) (b.getD k .nil))=false:=by rw [hq];rfl
    unfold usEq at hq2
    have hall':∀ i,i<k+1→usEq (a.getD i .nil) (b.getD i .nil)=true:=fun i hi=>by
     rcases Nat.lt_or_ge i k with h | h
     ·exact hall i h
     ·rw [show i=k by omega];exact hq
    clear hall hq
    refine zg [] [true,false] [decide ((k:Int)<(a.length:Int))=true,(0:Int)≤(k:Int)∧(k:Int)<(a.length:Int),(0:Int)≤(k:Int)∧(k:Int)<(b.length:Int),(!((a.getD k .nil).name==(b.getD k .nil).name&&((a.getD k .nil).pass==(b.getD k .nil).pass&&true)))=false,inR .i64 ((k:Int)+1)] ⟨sO,oM,oM,aS,i6⟩ ?_
    exact za [] (again _ (k+1) ⟨aS,aS⟩ oM)
   | false =>
    have hq2:(!usEq (a.getD k .nil) (b.getD k .nil))=true:=by rw [hq];rfl
    unfold usEq at hq2
    rw [allE_no hlt hq]
    clear hall hq
    refine zg [] [true,true] [decide ((k:Int)<(a.length:Int))=true,(0:Int)≤(k:Int)∧(k:Int)<(a.length:Int),(0:Int)≤(k:Int)∧(k:Int)<(b.length:Int),(!((a.getD k .nil).name==(b.getD k .nil).name&&((a.getD k .nil).pass==(b.getD k .nil).pass&&true)))=true] ⟨sO,oM,oM,(show (!((a.getD k .nil).name==(b.getD k .nil).name&&((a.getD k .nil).pass==(b.getD k .nil).pass&&true)))=true from aS)⟩ ?_
    exact zr
  ·rw [allE_yes (fun i hi=>hall i oM)]
   clear hall
   refine zg [] [false] [decide ((k:Int)<(a.length:Int))=false] (oN sO) ?_
   exact zr
theorem clients20G_ok (a b:List ClT) (hl:a.length≤1000000) (hc:∀ k,(a.getD k .nil).reds.length<1000000000):Pur Tryz.prog G 95 [.c (clS a),.c (clS b)] [.c (.bool (sameL .nil clEq a b))]:=by
 refine zp Tryz.func95 ?_
 unfold sameL
 cases t0:((a.length:Int) != (b.length:Int)) with
 | true =>
  refine zg [] [true] [((a.length:Int) != (b.length:Int))=true] (oN aS) ?_
  exact zr
 | false =>
  have hlen:=len_of t0
  refine zg [] [false] [((a.length:Int) != (b.length:Int))=false] t0 ?_
  refine zl (fun (k:Nat)=>⟨[(0,.v (.c (clS a))),(1,.v (.c (clS b))),(5,.v (.c (.int .i64 (k:Int))))],[],112⟩) (fun k=>k≤a.length∧∀ i,i<k→clEq (a.getD i .nil) (b.getD i .nil)=true) (fun k=>a.length-k) 0 ⟨Nat.zero_le _,fun _ h=>absurd h (Nat.not_lt_zero _)⟩ ?_
  intro k L ⟨hk,hall⟩ again
  rcases Nat.lt_or_ge k a.length with hlt | hge
  ·have hck:=hc k
   cases hq:clNe (a.getD k .nil) (b.getD k .nil) with
   | true =>
    rw [allE_no hlt (by unfold clEq;rw [hq];rfl)]
    clear hall
    unfold clNe at hq
    refine zg [] [true,true] [decide ((k:Int)<(a.length:Int))=true,(0:Int)≤(k:Int)∧(k:Int)<(a.length:Int),(0:Int)≤(k:Int)∧(k:Int)<(b.length:Int),(!(a.getD k .nil).id==(b.getD k .nil).id)=false→(0:Int)≤(k:Int)∧(k:Int)<(a.length:Int),(!(a.getD k .nil).id==(b.getD k .nil).id)=false→(0:Int)≤(k:Int)∧(k:Int)<(b.length:Int),(bif !(a.getD k .nil).id==(b.getD k .nil).id then true else (a.getD k .nil).secret != (b.getD k .nil).secret)=false→(0:Int)≤(k:Int)∧(k:Int)<(a.length:Int),(bif !(a.getD k .nil).id==(b.getD k .nil).id then true else (a.getD k .nil).secret != (b.getD k .nil).secret)=false→(0:Int)≤(k:Int)∧(k:Int)<(b.length:Int),(bif bif !(a.getD k .nil).id==(b.getD k .nil).id then true else (a.getD k .nil).secret != (b.getD k .nil).secret then true else !(a.getD k .nil).scope==(b.getD k .nil).scope)=false→(0:Int)≤(k:Int)∧(k:Int)<(a.length:Int),(bif bif !(a.getD k .nil).id==(b.getD k .nil).id then true else (a.getD k .nil).secret != (b.getD k .nil).secret then true else !(a.getD k .nil).scope==(b.getD k .nil).scope)=false→(0:Int)≤(k:Int)∧(k:Int)<(b.length:Int),(bif bif bif !(a.getD k .nil).id==(b.getD k .nil).id then true else (a.getD k .nil).secret != (b.getD k .nil).secret then true else !(a.getD k .nil).scope==(b.getD k .nil).scope then true else (↑(a.getD k .nil).reds.length:Int) != (↑(b.getD k .nil).reds.length:Int))=true] ⟨sO,oM,oM,oM,oM,oM,oM,oM,oM,(show (bif bif bif !(a.getD k .nil).id==(b.getD k .nil).id then true else (a.getD k .nil).secret != (b.getD k .nil).secret then true else !(a.getD k .nil).scope==(b.getD k .nil).scope then true else (↑(a.getD k .nil).reds.length:Int) != (↑(b.getD k .nil).reds.length:Int))=true from aS)⟩ ?_
    exact zr
   | false =>
    have hrl:(a.getD k .nil).reds.length=(b.getD k .nil).reds.length:=by
     unfold clNe at hq
     exact len_of (cond_t hq).2
    have hq2:=hq
    unfold clNe at hq2
    refine zg [] [true,false] [decide ((k:Int)<(a.length:Int))=true,(0:Int)≤(k:Int)∧(k:Int)<(a.length:Int),(0:Int)≤(k:Int)∧(k:Int)<(b.length:Int),(!(a.getD k .nil).id==(b.getD k .nil).id)=false→(0:Int)≤(k:Int)∧(k:Int)<(a.length:Int),(!(a.getD k .nil).id==(b.getD k .nil).id)=false→(0:Int)≤(k:Int)∧(k:Int)<(b.length:Int),(bif !(a.getD k .nil).id==(b.getD k .nil).id then true else (a.getD k .nil).secret != (b.getD k .nil).secret)=false→(0:Int)≤(k:Int)∧(k:Int)<(a.length:Int),(bif !(a.getD k .nil).id==(b.getD k .nil).id then true else (a.getD k .nil).secret != (b.getD k .nil).secret)=false→(0:Int)≤(k:Int)∧(k:Int)<(b.length:Int),(bif bif !(a.getD k .nil).id==(b.getD k .nil).id then true else (a.getD k .nil).secret != (b.getD k .nil).secret then true else !(a.getD k .nil).scope==(b.getD k .nil).scope)=false→(0:Int)≤(k:Int)∧(k:Int)<(a.length:Int),(bif bif !(a.getD k .nil).id==(b.getD k .nil).id then true else (a.getD k .nil).secret != (b.getD k .nil).secret then true else !(a.getD k .nil).scope==(b.getD k .nil).scope)=false→(0:Int)≤(k:Int)∧(k:Int)<(b.length:Int),(bif bif bif !(a.getD k .nil).id==(b.getD k .nil).id then true else (a.getD k .nil).secret != (b.getD k .nil).secret then true else !(a.getD k .nil).scope==(b.getD k .nil).scope then true else (↑(a.getD k .nil).reds.length:Int) != (↑(b.getD k .nil).reds.length:Int))=false] ⟨sO,oM,oM,oM,oM,oM,oM,oM,oM,(show (bif bif bif !(a.getD k .nil).id==(b.getD k .nil).id then true else (a.getD k .nil).secret != (b.getD k .nil).secret then true else !(a.getD k .nil).scope==(b.getD k .nil).scope then true else (↑(a.getD k .nil).reds.length:Int) != (↑(b.getD k .nil).reds.length:Int))=false from aS)⟩ ?_
    refine zl (fun (q:Nat)=>⟨[(0,.v (.c (clS a))),(1,.v (.c (clS b))),(5,.v (.c (.int .i64 (k:Int)))),(6,.v (.c (.int .i64 (q:Int))))],[],1024⟩) (fun q=>q≤(a.getD k .nil).reds.length∧∀ i,i<q→stEq ((a.getD k .nil).reds.getD i []) ((b.getD k .nil).reds.getD i [])=true) (fun q=>(a.getD k .nil).reds.length-q) 0 ⟨Nat.zero_le _,fun _ h=>absurd h (Nat.not_lt_zero _)⟩ ?_
    intro q L2 ⟨hqk,hall2⟩ again2
    rcases Nat.lt_or_ge q (a.getD k .nil).reds.length with hlt2 | hge2
    ·have hlt3:q<(b.getD k .nil).reds.length:=by omega
     cases hs:stEq ((a.getD k .nil).reds.getD q []) ((b.getD k .nil).reds.getD q []) with
     | true =>
      have hs2:(!stEq ((a.getD k .nil).reds.getD q []) ((b.getD k .nil).reds.getD q []))=false:=by rw [hs];rfl
      unfold stEq at hs2
      have hall3:∀ i,i<q+1→stEq ((a.getD k .nil).reds.getD i []) ((b.getD k .nil).reds.getD i [])=true:=fun i hi=>by
       rcases Nat.lt_or_ge i q with h | h
       ·exact hall2 i h
       ·rw [show i=q by omega];exact hs
      clear hall2 hs again
      have again:=again2
      clear again2
      refine zg [] [true,false] [(0:Int)≤(k:Int)∧(k:Int)<(a.length:Int),decide ((q:Int)<(↑(a.getD k .nil).reds.length:Int))=true,(0:Int)≤(k:Int)∧(k:Int)<(a.length:Int),(0:Int)≤(q:Int)∧(q:Int)<(↑(a.getD k .nil).reds.length:Int),(0:Int)≤(k:Int)∧(k:Int)<(b.length:Int),(0:Int)≤(q:Int)∧(q:Int)<(↑(b.getD k .nil).reds.length:Int),(!(a.getD k .nil).reds.getD q []==(b.getD k .nil).reds.getD q [])=false,inR .i64 ((q:Int)+1)] ⟨oM,(by simp_all<;>omega),oM,oM,oM,oM,aS,i6⟩ ?_
      exact za [] (again _ (q+1) ⟨aS,aS⟩ oM)
     | false =>
      have hs2:(!stEq ((a.getD k .nil).reds.getD q []) ((b.getD k .nil).reds.getD q []))=true:=by rw [hs];rfl
      unfold stEq at hs2
      rw [allE_no hlt (by unfold clEq;rw [hq];exact allE_no hlt2 hs)]
      clear hall hall2 hs again again2
      refine zg [] [true,true] [(0:Int)≤(k:Int)∧(k:Int)<(a.length:Int),decide ((q:Int)<(↑(a.getD k .nil).reds.length:Int))=true,(0:Int)≤(k:Int)∧(k:Int)<(a.length:Int),(0:Int)≤(q:Int)∧(q:Int)<(↑(a.getD k .nil).reds.length:Int),(0:Int)≤(k:Int)∧(k:Int)<(b.length:Int),(0:Int)≤(q:Int)∧(q:Int)<(↑(b.getD k .nil).reds.length:Int),(!(a.getD k .nil).reds.getD q []==(b.getD k .nil).reds.getD q [])=true] ⟨oM,(by simp_all<;>omega),oM,oM,oM,oM,(show (!(a.getD k .nil).reds.getD q []==(b.getD k .nil).reds.getD q [])=true from aS)⟩ ?_
      exact zr
    ·have hce:clEq (a.getD k .nil) (b.getD k .nil)=true:=by unfold clEq;rw [hq];exact allE_yes (fun i hi=>hall2 i oM)
     have hall':∀ i,i<k+1→clEq (a.getD i .nil) (b.getD i .nil)=true:=fun i hi=>by
      rcases Nat.lt_or_ge i k with h | h
      ·exact hall i h
      ·rw [show i=k by omega];exact hce
     clear again2 hall hall2 hce hq hq2
     refine zg [] [false] [(0:Int)≤(k:Int)∧(k:Int)<(a.length:Int),decide ((q:Int)<(↑(a.getD k .nil).reds.length:Int))=false,inR .i64 ((k:Int)+1)] ⟨oM,(by simp_all<;>omega),i6⟩ ?_
     exact za [] (again _ (k+1) ⟨aS,aS⟩ oM)
  ·rw [allE_yes (fun i hi=>hall i oM)]
   clear hall
   refine zg [] [false] [decide ((k:Int)<(a.length:Int))=false] (oN sO) ?_
   exact zr
def sameS (s t:StT):Bool:=bif bif bif bif s.name==t.name then s.key==t.key else false then sameL .nil clEq s.cls t.cls else false then sameL .nil usEq s.usr t.usr else false then sameL .nil rcEq s.recs t.recs else false
theorem same20G_ok (s t:StT) (hs:FitS s):Pur Tryz.prog G 45 [.agg (encSt s),.agg (encSt t)] [.c (.bool (sameS s t))]:=by
 refine zp Tryz.func45 ?_
 have c1:=clients20G_ok (G:=G) s.cls t.cls hs.cls (fun k=>(hs.cl k).reds)
 have c2:=users20G_ok (G:=G) s.usr t.usr hs.usr
 have c3:=same19G_ok (G:=G) s.recs t.recs hs.recs
 unfold sameS
 refine z0 [(1,{cs:=[(17,pc c1),(24,pc c2),(31,pc c3)]})] [] ?_
 exact zr
def findP (kind key:Int) (x:RcT):Bool:=bif x.kind==kind then x.key==key else false
def findT (l:List RcT) (now kind key:Int):RcT×Bool :=
 if ixF (findP kind key) (liveT now l)<0 then (.nil,false) else ((liveT now l).getD (ixF (findP kind key) (liveT now l)).toNat .nil,true)
theorem at19_ok (l:List RcT) (kind key:Int) (hl:l.length≤1000000):Pur Tryz.prog G 99 [.c (rcS l),.c (.int .i64 kind),.c (.int .i64 key)] [.c (.int .i64 (ixF (findP kind key) l))]:=by
 refine zp Tryz.func99 ?_
 refine z0 [] [] ?_
 refine zl (fun (k:Nat)=>⟨[(0,.v (.c (rcS l))),(1,.v (.c (.int .i64 kind))),(2,.v (.c (.int .i64 key))),(6,.v (.c (.int .i64 0))),(7,.v (.c (.int .i64 (k:Int))))],[],32⟩) (fun k=>k≤l.length∧∀ i,i<k→findP kind key (l.getD i .nil)=false) (fun k=>l.length-k) 0 ⟨Nat.zero_le _,fun _ h=>absurd h (Nat.not_lt_zero _)⟩ ?_
 intro k L ⟨hk,hall⟩ again
 rcases Nat.lt_or_ge k l.length with hlt | hge
 ·cases hq:findP kind key (l.getD k .nil) with
  | true =>
   rw [ixF_some (p:=findP kind key) (d:=RcT.nil) hlt hall hq]
   unfold findP at hq
   refine zg [] [true,true] [decide ((k:Int)<(l.length:Int))=true,(0:Int)≤(k:Int)∧(k:Int)<(l.length:Int),((l.getD k .nil).kind==kind)=true→(0:Int)≤(k:Int)∧(k:Int)<(l.length:Int),(bif (l.getD k .nil).kind==kind then (l.getD k .nil).key==key else false)=true] ⟨sO,oM,oM,(show (bif (l.getD k .nil).kind==kind then (l.getD k .nil).key==key else false)=true from aS)⟩ ?_
   exact zr
  | false =>
   have hall':∀ i,i<k+1→findP kind key (l.getD i .nil)=false:=fun i hi=>by
    rcases Nat.lt_or_ge i k with h | h
    ·exact hall i h
    ·rw [show i=k by omega];exact hq
   unfold findP at hq
   refine zg [] [true,false] [decide ((k:Int)<(l.length:Int))=true,(0:Int)≤(k:Int)∧(k:Int)<(l.length:Int),((l.getD k .nil).kind==kind)=true→(0:Int)≤(k:Int)∧(k:Int)<(l.length:Int),(bif (l.getD k .nil).kind==kind then (l.getD k .nil).key==key else false)=false,inR .i64 ((k:Int)+1)] ⟨sO,oM,oM,aS,i6⟩ ?_
   exact za [] (again _ (k+1) ⟨aS,aS⟩ oM)
 ·rw [ixF_none (p:=findP kind key) (d:=RcT.nil) (fun i hi=>hall i oM)]
  refine zg [] [false] [decide ((k:Int)<(l.length:Int))=false] (oN sO) ?_
  exact zr
theorem find19_ok (l:List RcT) (now kind key:Int) (hl:l.length≤1000000):Pur Tryz.prog G 46 [.c (rcS l),.c (.int .i64 now),.c (.int .i64 kind),.c (.int .i64 key)] [.agg (encRc (findT l now kind key).1),.c (.bool (findT l now kind key).2)]:=by
 refine zp Tryz.func46 ?_
 have c1:=live19_ok (G:=G) l now oM
 have hll:=live_len now l
 have c2:=at19_ok (G:=G) (liveT now l) kind key oM
 unfold findT
 by_cases h:ixF (findP kind key) (liveT now l)<0
 ·rw [if_pos h]
  have t1:decide (ixF (findP kind key) (liveT now l)<0)=true:=decide_eq_true h
  clear h
  generalize ixF (findP kind key) (liveT now l)=x at *
  refine zg [(1,{cs:=[(2,pc c1)]}),(2,{cs:=[(3,pc c2)]})] [true] [decide (x<(0:Int))=true] (oN aS) ?_
  exact zr
 ·rw [if_neg h]
  obtain ⟨k,hk,hkl⟩:∃ k:Nat,ixF (findP kind key) (liveT now l)=(k:Int)∧k<(liveT now l).length:=by
   unfold ixF at h ⊢
   cases hf:(liveT now l).findIdx? (findP kind key) with
   | none=>rw [hf] at h; exact absurd dC h
   | some k=>exact ⟨k,rfl,(List.findIdx?_eq_some_iff_getElem.1 hf).1⟩
  rw [hk] at c2 ⊢
  rw [Int.toNat_natCast]
  clear h hk
  refine zg [(1,{cs:=[(2,pc c1)]}),(2,{cs:=[(3,pc c2)]})] [false] [decide ((k:Int)<0)=false,(0:Int)≤(k:Int)∧(k:Int)<(↑(liveT now l).length:Int)] ⟨rfl,(show (0:Int)≤(↑k:Int)∧(↑k:Int)<(↑(liveT now l).length:Int) from oM)⟩ ?_
  exact zr
theorem pushR1 (t:Int):pushT baseT ⟨100,1,t⟩ 1 (rightT 1)=({ baseT with recs:=[pRec 1 (rightT 1) 100 (t+60)] },⟨101,1,t⟩,100,0):=by kernel_rfl
theorem pushR2 (t:Int):pushT baseT ⟨100,1,t⟩ 2 (rightT 2)=({ baseT with recs:=[pRec 2 (rightT 2) 100 (t+60)] },⟨101,1,t⟩,100,0):=by kernel_rfl
theorem pushR3 (t:Int):pushT baseT ⟨100,1,t⟩ 3 (rightT 3)=({ baseT with recs:=[pRec 3 (rightT 3) 100 (t+60)] },⟨101,1,t⟩,100,0):=by kernel_rfl
theorem pushR (t n:Int) (h1:1≤n) (h2:n≤3):pushT baseT ⟨100,1,t⟩ n (rightT n)=({ baseT with recs:=[pRec n (rightT n) 100 (t+60)] },⟨101,1,t⟩,100,0):=by
 obtain rfl | rfl | rfl:n=1∨n=2∨n=3:=by omega
 ·exact pushR1 t
 ·exact pushR2 t
 ·exact pushR3 t
theorem rcEq_self (r:RcT):rcEq r r=true:=by
 unfold rcEq;simp
theorem ix_one (p:RcT→Bool) (r:RcT) (h:p r=true):ixF p [r]=0:=by
 unfold ixF;simp [h]
theorem findR1 (r:RcT) (now:Int) (h:now<r.til):findT [r] now r.kind r.key=(r,true):=by
 unfold findT
 have e:liveT now [r]=[r]:=by unfold liveT liveP;simp [h]
 rw [e,ix_one _ r (by unfold findP;simp),if_neg dC]
 rfl
theorem findR0 (r:RcT) (now kind key:Int) (h:¬ now<r.til):findT [r] now kind key=(.nil,false):=by
 unfold findT
 have e:liveT now [r]=[]:=by unfold liveT liveP;simp [h]
 rw [e,if_pos (show ixF (findP kind key) []<0 from (show (-1:Int)<0 from by decide))]
theorem pushFinds_ok {m:Int} (ns:List Int) (now later:Int) (hl:ns.length≤9223372036854775807):Pur Tryz.prog (Gn m) 7 [.c (.sl 1 ns.length (intsF ns)),.c (.int .i64 now),.c (.int .i64 later)] [.c (.bool true)]:=by
 refine zp Tryz.func7 ?_
 have c1:=known20_ok (Gn_len m)
 have c2:=base_ok (G:=Gn m)
 have c3:=within20_ok (G:=Gn m) now 1000 dC dC
 have h3:=withT_rng now 1000 dC
 generalize withT now 1000=t at c3 h3
 have c4:=within20_ok (G:=Gn m) now 3 dC dC
 have h4:=withT_rng now 3 dC
 generalize withT now 3=k at c4 h4
 have c5:=right_ok (G:=Gn m) (1+k) oM oM
 have f5:FitW (rightT (1+k)):=(fit_right (1+k) (30+withT (1+k) 3)).fit
 have c6:=push_ok (Gn_len m) baseT fitS_base dC ⟨100,1,t⟩ ⟨by show 0≤t;omega,by show t≤1000000000;omega,by show (-1000000000000:Int)≤100;decide⟩ (1+k) (rightT (1+k)) f5
 rw [pushR t (1+k) oM oM] at c6
 have c7:=within20_ok (G:=Gn m) later 60 dC dC
 have h7:=withT_rng later 60 dC
 generalize withT later 60=z at c7 h7
 generalize rightT (1+k)=w at *
 have c8:=find19_ok (G:=Gn m) [pRec (1+k) w 100 (t+60)] (t+z) 1 100 (by show (1:Nat)≤1000000;decide)
 rw [show findT [pRec (1+k) w 100 (t+60)] (t+z) 1 100=(pRec (1+k) w 100 (t+60),true) from findR1 (pRec (1+k) w 100 (t+60)) (t+z) (by show t+z<t+60;omega)] at c8
 have c9:=find19_ok (G:=Gn m) [pRec (1+k) w 100 (t+60)] (t+60) 1 100 (by show (1:Nat)≤1000000;decide)
 rw [findR0 (pRec (1+k) w 100 (t+60)) (t+60) 1 100 (by show ¬ t+60<t+60;omega)] at c9
 refine zg [(1,{cs:=[(0,pc c1)]}),(3,{cs:=[(0,pc c2)]}),(4,{cs:=[(1,pc c3)]}),(5,{cs:=[(1,pc c4)]}),(6,{cs:=[(4,pc c5),(5,pc c6)]}),(7,{cs:=[(5,pc c7),(8,pc c8)]}),(8,{cs:=[(6,pc c9)]}),(9,{cs:=[(25,pc c5)]})] [false] [(!true)=false,inR .i64 (1+k),inR .i64 (t+z),inR .i64 (t+60),((0:Int)==(0:Int))=true→inR .i64 (src0.n+(1:Int)),(bif bif bif (0:Int)==(0:Int) then (101:Int)==src0.n+(1:Int) else false then true else false then !false else false)=true→inR .i64 (t+(60:Int))] ⟨rfl,i6,i6,i6,(fun _=>inR64 dC dC),(fun _=>i6)⟩ ?_
 exact zS [.c (.bool (bif bif bif bif (0:Int)==(0:Int) then (101:Int)==src0.n+(1:Int) else false then true else false then !false else false then (1:Int)==(1:Int)&&((100:Int)==(100:Int)&&(t+(60:Int)==t+(60:Int)&&(false==false&&((1:Int)+k==(1:Int)+k&&((0:Int)==(0:Int)&&((0:Int)==(0:Int)&&((0:Int)==(0:Int)&&(w.ty==w.ty&&(w.redir==w.redir&&(w.scope==w.scope&&(w.state==w.state&&(w.nonce==w.nonce&&(w.chal==w.chal&&(w.meth==w.meth&&true))))))&&true)))))))) else false))] (by show [V1.c (Cell.bool _)]=_;rw [show src0.n=100 from rfl];simp)
end Go.Proofs.Tw
end
section
namespace Go.Sv
theorem mapM_keep {α β:Type} {f g:α→Option β}:∀ {l:List α} {ys:List β},l.mapM f=some ys→(∀ x∈l,∀ y,f x=some y→y∈ys→g x=some y)→l.mapM g=some ys
 | [],ys,h,_=>by simpa using h
 | x::l,ys,h,hg=>by
  rw [List.mapM_cons] at h ⊢
  cases hx:f x with
  | none=>rw [hx] at h; cases h
  | some y =>
   rw [hx] at h
   cases hl:l.mapM f with
   | none=>rw [hl] at h; cases h
   | some zs =>
    rw [hl] at h
    obtain rfl:y::zs=ys:=by simpa using h
    rw [hg x (by simp) y hx (by simp),mapM_keep hl (fun u hu v hv hm=>hg u (by simp [hu]) v hv (by simp [hm]))]
    rfl
theorem cell_keep {W W':World} (hk:∀ b,b<W.heap.size→W'.heap[b]?=W.heap[b]?) {a:Addr} {v:Value} (h:W.cell? a=some v):W'.cell? a=some v:=by
 have hb:a.block<W.heap.size:=by
  rcases Nat.lt_or_ge a.block W.heap.size with hlt | hge
  ·exact hlt
  ·simp [World.cell?,Array.getElem?_eq_none hge] at h
 simp only [World.cell?,hk _ hb] at h ⊢
 exact h
theorem cells_keep {W W':World} (hk:∀ b,b<W.heap.size→W'.heap[b]?=W.heap[b]?) {base:Nat} {a:Addr} {n:Nat} {l:List Value} (h:W.cells? base a n=some l):W'.cells? base a n=some l:=by
 unfold World.cells? at h ⊢
 split at h
 ·rename_i hb
  rw [if_pos hb]
  exact mapM_keep h (fun x _ y hy _=>cell_keep hk hy)
 ·cases h
def stepT (P:Program) (S:TypeId→Bool) (t:TypeId):Bool:=match P.underlying t with
 | some (.slice e) => !(Nat.beq (P.cellsOf e) 0)&&S e
 | some (.pointer e)=>S e
 | some (.struct fs)=>fs.toList.all fun f=>S f.type
 | some (.array _ e)=>S e
 | some (.map _ e)=>S e
 | _=>true
def inL (l:List TypeId) (t:TypeId):Bool:=l.any fun u=>Nat.beq u t
def closedT (P:Program) (l:List TypeId):Bool:=l.all (stepT P (inL l))
theorem closed_step {P:Program} {l:List TypeId} (h:closedT P l=true) {t:TypeId} (ht:inL l t=true):stepT P (inL l) t=true:=by
 obtain ⟨u,hu,e⟩:=List.any_eq_true.1 ht
 obtain rfl:u=t:=Nat.eq_of_beq_eq_true e
 exact List.all_eq_true.1 h u hu
theorem trod_keep {H:Type} {enc:TypeId×Value→H} {P:Program} {W W':World} {base:Nat} {sp sp':Nat→Bool} {l:List TypeId} (hk:∀ b,b<W.heap.size→W'.heap[b]?=W.heap[b]?)
  (hz:closedT P l=true) (hsp:∀ b,sp b=true):∀ (fuel:Nat) (t:TypeId) (cs:List Value) (d:DataW H) (p:List MemPlace),inL l t=true→DataW.trod enc P W base sp true fuel t cs=some (d,p) →
   (∀ q∈p,sp' q.block=true)→DataW.trod enc P W' base sp' true fuel t cs=some (d,p):=by
 intro fuel
 induction fuel with
 | zero=>intro t cs d p _ h; simp [DataW.trod] at h
 | succ fuel ih =>
  intro t cs d p hin h hs
  have hst:=closed_step hz hin
  unfold stepT at hst
  unfold DataW.trod at h ⊢
  generalize hu:P.underlying t=u at h hst ⊢
  split at h
  case h_6 e a =>
   simp only at hst
   rw [Option.map_eq_some_iff] at h
   obtain ⟨x,hx,he⟩:=h
   rw [Option.bind_eq_some_iff] at hx
   obtain ⟨vl,hl,hx⟩:=hx
   simp only [Prod.mk.injEq] at he
   obtain ⟨rfl,rfl⟩:=he
   simp only [cells_keep hk hl,Option.bind_some]
   rw [ih e vl x.1 x.2 hst hx (fun q hq=>hs q (by simp [hq]))]
   rfl
  case h_8 e a len cap =>
   simp only [Bool.and_eq_true,Bool.not_eq_true'] at hst
   have hz:P.cellsOf e≠0:=fun h0=>by rw [h0] at hst;exact absurd hst.1 dC
   simp only at h ⊢
   split at h
   ·rename_i hc
    rw [if_pos hc]
    rw [Option.bind_eq_some_iff] at h
    obtain ⟨elems,hel,h⟩:=h
    rw [Option.map_eq_some_iff] at h
    obtain ⟨rest,hre,he⟩:=h
    simp only [Prod.mk.injEq] at he
    obtain ⟨rfl,rfl⟩:=he
    have elemAt:∀ (i:Nat) (y:DataW H×List MemPlace),(W.cells? base (a.add (i*P.cellsOf e)) (P.cellsOf e)).bind (DataW.trod enc P W base sp true fuel e)=some y→y∈elems++rest →
      (W'.cells? base (a.add (i*P.cellsOf e)) (P.cellsOf e)).bind (DataW.trod enc P W' base sp' true fuel e)=some y:=by
     intro i y hy hm
     rw [Option.bind_eq_some_iff] at hy ⊢
     obtain ⟨vl,hl,hy⟩:=hy
     exact ⟨vl,cells_keep hk hl,ih e vl y.1 y.2 hst.2 hy (fun q hq=>hs q (List.mem_append_right _ (List.mem_flatMap.2 ⟨y,hm,hq⟩)))⟩
    rw [mapM_keep hel (fun x _ y hy hm=>elemAt x y hy (List.mem_append_left _ hm))]
    simp only [Option.bind_some]
    have hrest:(if sp' a.block=true then (List.range (cap-len)).mapM fun j=>(W'.cells? base (a.add ((len+j)*P.cellsOf e)) (P.cellsOf e)).bind (DataW.trod enc P W' base sp' true fuel e) else some [])=some rest:=by
     by_cases h0:elems.length+rest.length=0
     ·have hr:rest=[]:=List.eq_nil_of_length_eq_zero oM
      have hle:elems=[]:=List.eq_nil_of_length_eq_zero oM
      have none0:∀ {f:Nat→Option (DataW H×List MemPlace)} {n:Nat} {ys:List (DataW H×List MemPlace)},(List.range n).mapM f=some ys→ys=[]→n=0:=by
       intro f n ys h hy
       subst hy
       cases n with
       | zero=>rfl
       | succ n =>
        rw [List.range_succ_eq_map,List.mapM_cons] at h
        exfalso
        revert h
        cases f 0 with
        | none=>intro h; cases h
        | some y =>
         intro h
         simp only [Option.bind_eq_bind,Option.bind_some] at h
         rw [Option.bind_eq_some_iff] at h
         obtain ⟨_,_,h⟩:=h
         simp at h
      have hlen:=none0 hel hle
      rw [if_pos (hsp _)] at hre
      have hc0:=none0 hre hr
      rw [hc0,hr]
      simp
     ·have hb:sp' a.block=true:=by
       have hm:(MemPlace.cell a.block (a.off+0))∈MemPlace.row a ((elems.length+rest.length)*P.cellsOf e):=by
        unfold MemPlace.row
        refine List.mem_map.2 ⟨0,List.mem_range.2 ?_,rfl⟩
        exact Nat.mul_pos oM oM
       exact hs _ (List.mem_append_left _ hm)
      rw [if_pos hb]
      rw [if_pos (hsp _)] at hre
      exact mapM_keep hre (fun x _ y hy hm=>elemAt (len+x) y hy (List.mem_append_right _ hm))
    rw [hrest]
    rfl
   ·cases h
  case h_9 fs =>
   split at h
   ·rename_i hc
    rw [if_pos hc]
    rw [Option.map_eq_some_iff] at h
    obtain ⟨xs,hx,he⟩:=h
    simp only [Prod.mk.injEq] at he
    obtain ⟨rfl,rfl⟩:=he
    rw [mapM_keep hx (fun f hf y hy hm=>ih _ _ y.1 y.2 (List.all_eq_true.1 hst f hf) hy (fun q hq=>hs q (List.mem_flatMap.2 ⟨y,hm,hq⟩)))]
    rfl
   ·cases h
  case h_10 n e =>
   split at h
   ·rename_i hc
    rw [if_pos hc]
    rw [Option.map_eq_some_iff] at h
    obtain ⟨xs,hx,he⟩:=h
    simp only [Prod.mk.injEq] at he
    obtain ⟨rfl,rfl⟩:=he
    rw [mapM_keep hx (fun f _ y hy hm=>ih _ _ y.1 y.2 hst hy (fun q hq=>hs q (List.mem_flatMap.2 ⟨y,hm,hq⟩)))]
    rfl
   ·cases h
  case h_12 ms u v=>exact h
  case h_14 k e b =>
   cases hb:W.heap[b]? with
   | none=>rw [hb] at h; cases h
   | some o =>
    have hlt:b<W.heap.size:=by
     rcases Nat.lt_or_ge b W.heap.size with hlt | hge
     ·exact hlt
     ·rw [Array.getElem?_eq_none hge] at hb;cases hb
    rw [hb] at h
    rw [hk b hlt,hb]
    cases o with
    | map es clock =>
     simp only at h ⊢
     split at h
     ·rename_i hc
      rw [if_pos hc]
      rw [Option.bind_eq_some_iff] at h
      obtain ⟨entries,he,h⟩:=h
      have he':entries.flatMap (fun x=>x.2) ⊆ p:=by
       split at h
       ·simp only [Option.some.injEq,Prod.mk.injEq] at h
        rw [← h.2]
        exact fun x hx=>List.mem_cons_of_mem _ hx
       ·cases h
      rw [mapM_keep (g:=fun x=>(keyOf P k x.key).bind fun key=>if x.val.formed P e then (DataW.trod enc P W' base sp' true fuel e x.val.cells.toList).map fun y=>((key,y.1),y.2) else none) he (fun x _ y hy hm=>by
       rw [Option.bind_eq_some_iff] at hy ⊢
       obtain ⟨key,hkey,hy⟩:=hy
       refine ⟨key,hkey,?_⟩
       split at hy
       ·rename_i hf
        rw [if_pos hf]
        rw [Option.map_eq_some_iff] at hy ⊢
        obtain ⟨z,hz',rfl⟩:=hy
        exact ⟨z,ih e _ z.1 z.2 hst hz' (fun q hq=>hs q (he' (List.mem_flatMap.2 ⟨_,hm,hq⟩))),rfl⟩
       ·cases hy)]
      exact h
     ·cases h
    | _=>cases h
  all_goals exact h
theorem trodAll_keep {H:Type} {enc:TypeId×Value→H} {P:Program} {W W':World} {base:Nat} {sp sp':Nat→Bool} {l:List TypeId} (hk:∀ b,b<W.heap.size→W'.heap[b]?=W.heap[b]?)
  (hz:closedT P l=true) (hsp:∀ b,sp b=true):∀ (ts:List TypeId) (vs:List Value) (ds:List (DataW H)) (p:List MemPlace),(∀ t∈ts,inL l t=true)→DataW.TrodAll enc P W base sp true ts vs ds p →
   (∀ q∈p,sp' q.block=true)→DataW.TrodAll enc P W' base sp' true ts vs ds p
 | [],[],[],p,_,h,_=>h
 | t::ts,v::vs,d::ds,p,hl,⟨p1,q1,⟨fuel,h1⟩,h2,e⟩,hs =>
  ⟨p1,q1,⟨fuel,trod_keep hk hz hsp fuel t _ d p1 (hl t (by simp)) h1 (fun q hq=>hs q (by rw [e];simp [hq]))⟩,trodAll_keep hk hz hsp ts vs ds q1 (fun t ht=>hl t (by simp [ht])) h2 (fun q hq=>hs q (by rw [e];simp [hq])),e⟩
theorem ints_den {H:Type} {enc:TypeId×Value→H} {P:Program} {W:World} {base0 base:Nat} {sp:Nat→Bool} {held:Bool} {t e:TypeId} {k:IntKind} (ht:P.underlying t=some (.slice e)) (he:P.underlying e=some (.int k)) (hc:P.cellsOf e=1)
  {v:Value} {d:DataW H} {p:List MemPlace} (hok:Value.okWide P W .any base0 t v) (h:DataW.Trod enc P W base sp held t v d p) :
  ∃ ns:List Int,ns.length≤maxLen∧DenV (Dw W) rho0 (.c (.sl 1 ns.length (fun i _ => .int k (ns.getD i 0)))) v:=by
 obtain ⟨fuel,hf⟩:=h
 obtain ⟨a0,len0,cap0,rfl⟩:=Go.WideShapes.okWide_slice ht hok
 rcases Go.ChangeShapes.open_ints ht he hc hf with ⟨hcs,_⟩ | ⟨a,len,cap,zs,hcs,_,hl,hm,hzl,_,hcell,_⟩
 ·have:Value.slice a0 len0 cap0 = .slice none 0 0:=by simpa [Value.cells] using hcs
  rw [this]
  exact ⟨[],Nat.zero_le _,none,0,rfl,Nat.le_refl _,Nat.zero_le _,.inl ⟨rfl,rfl⟩⟩
 ·have hv:Value.slice a0 len0 cap0 = .slice (some a) len cap:=by simpa [Value.cells] using hcs
  rw [hv] at hok ⊢
  have hsp:a.spot=none:=by
   simp only [Value.okWide,ht,Cell.okWide,Cell.ok] at hok
   exact hok.2.2.2.1
  obtain ⟨b,o,spot⟩:=a
  simp only at hsp
  subst hsp
  have hle:len≤zs.length:=by rw [hzl];split<;>omega
  have hn:(zs.take len).length=len:=by rw [List.length_take];omega
  refine ⟨zs.take len,by rw [hn];omega,some ⟨b,o,none⟩,cap,by rw [hn],by rw [hn];exact hl,hm,.inr ⟨b,o,rfl,fun i hi j hj => ?_⟩⟩
  obtain rfl:j=0:=by omega
  rw [hn] at hi
  have:=hcell i oM
  rw [Go.WideShapes.add_plain] at this
  refine ⟨.int k (zs.getD i 0),by unfold Dw;rw [← this];congr 2;omega,?_⟩
  simp only [Den]
  congr 1
  simp [List.getD,List.getElem?_take,hi]
theorem int_den {P:Program} {W:World} {base0:Nat} {t:TypeId} {k:IntKind} (ht:P.underlying t=some (.int k)) {v:Value} (hok:Value.okWide P W .any base0 t v) :
  ∃ z:Int,DenV (Dw W) rho0 (.c (.int k z)) v:=by
 obtain ⟨n,rfl⟩:=Go.WideShapes.okWide_int ht hok
 exact ⟨n,rfl⟩
end Go.Sv
end
section
namespace Go.Sv
theorem int_shape {P:Program} {w:World} {g:Nat} {t:TypeId} {zero:Array Value} {k:IntKind} (h:w.ShapedOpen P) (hg:g<P.globals.size)
  (h0:((begin P (fun _ _=>0) default).world.heap[g]?).bind Obj.row?=some (zero,t)) (hz:zero.size=1)
  (hb:P.buildable t=true) (hc:P.cellTypes P.depth t=some [t]) (hu:P.underlying t=some (.int k)):∃ (m:Int) (cs:Array Value) (fz:Nat×Nat),w.heap[g]?=some (.cells cs t fz)∧cs.size=1∧cs[0]?=some (.int k m):=by
 obtain ⟨cs,hh,hs,hr⟩:=h.1 g zero t hg h0
 obtain ⟨ts,hts,_,hall⟩:=hr hb
 rw [hc] at hts
 cases hts
 have h1:0<cs.size:=by omega
 obtain ⟨u,hu',hok⟩:=hall 0 cs[0] (by simp [h1])
 have:u=t:=by simpa using hu'.symm
 subst this
 have hcell:cs[0]?=some cs[0]:=by simp [h1]
 unfold Cell.ok at hok
 rw [hu] at hok
 cases hv:cs[0] with
 | int k' n =>
  rw [hv] at hok
  have hk:k'=k:=by first | exact hok.1 | exact hok.1.symm | (simp at hok;exact hok.1) | (simp at hok;exact hok.1.symm)
  subst hk
  exact ⟨n,cs,_,hh,by omega,by rw [hcell,hv]⟩
 | _=>rw [hv] at hok; simp at hok
theorem glob_plus {P:Program} {G:Nat→Option (List Cell)} {W:World} {laid:List (String×DataW Unit)} {g0:Nat} {k:IntKind} {m:Int} {cs0:Array Value} {t0:TypeId} {fz0:Nat×Nat} (h:laidMet P laid W)
  (hw:W.heap[g0]?=some (.cells cs0 t0 fz0)) (hs:cs0.size=1) (hx:cs0[0]?=some (.int k m)) (h0:G g0=some [.int k m])
  (hG:∀ g cs,g≠g0→G g=some cs→∃ n d t,(n,d)∈laid∧P.globalNamed n=some g∧(P.globals[g]?).map (·.type)=some t∧dc P 9 t d=some cs):GlobOk G (Dw W)∧GlobW G W:=by
 obtain ⟨k1,k2⟩:=glob_ok (G:=fun g=>if g=g0 then none else G g) (laid:=laid) h (fun g cs hg=>by
  split at hg
  ·cases hg
  ·rename_i hne;exact hG g cs hne hg)
 refine ⟨fun g cs hg j x hj => ?_,fun g cs hg hne => ?_⟩
 ·by_cases e:g=g0
  ·subst e
   rw [h0] at hg
   obtain rfl:=Option.some.inj hg
   cases j with
   | zero =>
    simp at hj;subst hj
    exact ⟨.int k m,by simp only [Dw,World.cell?,hw,Option.isSome_none,Bool.false_eq_true,if_false];exact hx,rfl⟩
   | succ j=>simp at hj
  ·exact k1 g cs (by show (if g=g0 then none else G g)=some cs;rw [if_neg e];exact hg) j x hj
 ·by_cases e:g=g0
  ·subst e
   rw [h0] at hg
   obtain rfl:=Option.some.inj hg
   exact ⟨cs0,t0,fz0,hw,by rw [hs];rfl⟩
  ·exact k2 g cs (by show (if g=g0 then none else G g)=some cs;rw [if_neg e];exact hg) hne
end Go.Sv
end
section
open Go Go.Sv Go.RowKit
namespace Go.Proofs.Tw
attribute [local irreducible] Wp FinQ resV Ent Pur Go.Sv.Fn Sat0
set_option maxRecDepth 100000
set_option maxHeartbeats 4000000
variable {G:Nat→Option (List Cell)}
def fullL (k:Int) (w:WT) (i:Nat):List RcT:=(List.range i).map fun (j:Nat)=>pRec k w (100+(j:Int)) 60
def fullS (k:Int) (w:WT) (i:Nat):StT:=⟨[97,115],1,baseC,baseU,fullL k w i⟩
def srcF (i:Nat):SoT:=⟨100+(i:Int),1,0⟩
theorem putsF (k:Int) (w:WT):∀ (i:Nat),i<6→putsT (fullS k w i) ⟨100+(i:Int),1,0⟩ k w=(100+(i:Int),0,fullS k w (i+1),⟨100+(i:Int)+1,1,0⟩)
 | 0,_=>by kernel_rfl
 | 1,_=>by kernel_rfl
 | 2,_=>by kernel_rfl
 | 3,_=>by kernel_rfl
 | 4,_=>by kernel_rfl
 | 5,_=>by kernel_rfl
 | i+6,h=>by omega
theorem putsF6 (k:Int) (w:WT):putsT (fullS k w 6) ⟨106,1,0⟩ k w=(0,16,fullS k w 6,⟨106,1,0⟩):=by kernel_rfl
theorem putsFl (k:Int) (w:WT):putsT (fullS k w 6) ⟨106,1,60⟩ k w=(106,0,⟨[97,115],1,baseC,baseU,[pRec k w 106 120]⟩,⟨107,1,60⟩):=by kernel_rfl
theorem putsFn (k:Int) (w:WT):putsT (fullS k w 6) ⟨1073741825,1,60⟩ k w=(0,16,fullS k w 6,⟨1073741825,1,60⟩):=by kernel_rfl
theorem chkP1:chkT (baseC.getD 0 .nil) { rightT 1 with meth:=[112,108,97,105,110] }=10:=by kernel_rfl
theorem chkP2:chkT (baseC.getD 1 .nil) { rightT 2 with meth:=[112,108,97,105,110] }=10:=by kernel_rfl
theorem chkP3:chkT (baseC.getD 2 .nil) { rightT 3 with meth:=[112,108,97,105,110] }=10:=by kernel_rfl
theorem chkP (k:Nat) (hk:k<3):chkT (baseC.getD k .nil) { rightT ((k:Int)+1) with meth:=[112,108,97,105,110] }=10:=by
 match k,hk with
 | 0,_=>exact chkP1
 | 1,_=>exact chkP2
 | 2,_=>exact chkP3
theorem pushT_in (s:StT) (src:SoT) (n:Int) (k:Nat) (w:WT) (hn:n=(k:Int)+1) (hc:s.cls=baseC) (hk:k<3):pushT s src n w=if chkT (baseC.getD k .nil) w=0 then ((putsT s src n w).2.2.1,(putsT s src n w).2.2.2,(putsT s src n w).1,(putsT s src n w).2.1) else (s,src,0,chkT (baseC.getD k .nil) w):=by
 subst hn
 unfold pushT
 rw [hc,if_neg (by show ¬ ((k:Int)+1<1∨((3:Nat):Int)<(k:Int)+1);omega),show ((k:Int)+1-1).toNat=k by omega]
theorem sameL_self {α:Type} (d:α) (p:α→α→Bool) (h:∀ x,p x x=true) (a:List α):sameL d p a a=true:=by
 unfold sameL;rw [allE_yes (fun k _=>h _)];simp
theorem clEq_self (x:ClT):clEq x x=true:=by
 unfold clEq clNe;rw [allE_yes (fun k _=>by unfold stEq;simp)];simp
theorem usEq_self (x:UsT):usEq x x=true:=by unfold usEq;simp
theorem sameS_self (s:StT):sameS s s=true:=by
 unfold sameS;rw [sameL_self _ _ clEq_self,sameL_self _ _ usEq_self,sameL_self _ _ rcEq_self];simp
theorem fullL_len (k:Int) (w:WT) (i:Nat):(fullL k w i).length=i:=by unfold fullL;simp
theorem fullS_fit (k:Int) (w:WT) (i:Nat) (hi:i≤6):FitS (fullS k w i):=⟨by show (3:Nat)≤_;decide,by show (2:Nat)≤_;decide,by show (fullL k w i).length≤_;rw [fullL_len];omega,fitC_base⟩
theorem pushFull_ok {m:Int} (nn:Int):Pur Tryz.prog (Gn m) 8 [.c (.int .i64 nn)] [.c (.bool true)]:=by
 refine zp Tryz.func8 ?_
 have c1:=known20_ok (Gn_len m)
 have c2:=base_ok (G:=Gn m)
 have c3:=within20_ok (G:=Gn m) nn 3 dC dC
 have h3:=withT_rng nn 3 dC
 generalize withT nn 3=k0 at c3 h3
 obtain ⟨k,rfl⟩:∃ k:Nat,k0=(k:Int):=⟨k0.toNat,by omega⟩
 have hk:k<3:=by omega
 have c4:=right_ok (G:=Gn m) (1+(k:Int)) oM oM
 have f4:FitW (rightT (1+(k:Int))):=(fit_right (1+(k:Int)) (30+withT (1+(k:Int)) 3)).fit
 have q1:chkT (baseC.getD k .nil) (rightT (1+(k:Int)))=0:=by rw [Int.add_comm];exact chkR k hk
 have q2:chkT (baseC.getD k .nil) { rightT (1+(k:Int)) with meth:=[112,108,97,105,110] }=10:=by rw [Int.add_comm];exact chkP k hk
 have f5:FitW { rightT (1+(k:Int)) with meth:=[112,108,97,105,110] }:=⟨f4.redir,f4.scope,f4.state,f4.nonce,f4.chal⟩
 generalize rightT (1+(k:Int))=w at *
 have pu:∀ i:Nat,i<6→Pur Tryz.prog (Gn m) 43 [.agg (encSt (fullS (1+(k:Int)) w i)),.agg (encSo (srcF i)),.c (.int .i64 (1+(k:Int))),.agg (encW w)] [.agg (encSt (fullS (1+(k:Int)) w (i+1))),.agg (encSo ⟨100+(i:Int)+1,1,0⟩),.c (.int .i64 (100+(i:Int))),.c (.int .i64 0)]:=fun i hi=>by
  have c:=push_ok (Gn_len m) (fullS (1+(k:Int)) w i) (fullS_fit _ _ i oM) (by show (fullL _ _ i).length≤_;rw [fullL_len];omega) ⟨100+(i:Int),1,0⟩ ⟨by show (0:Int)≤0;decide,by show (0:Int)≤1000000000;decide,by show (-1000000000000:Int)≤100+(i:Int);omega⟩ (1+(k:Int)) w f4
  rw [pushT_in _ _ (1+(k:Int)) k w oM rfl hk,if_pos q1,putsF _ _ i hi] at c
  exact c
 have p6:∀ src:SoT,FitR src→∀ w',FitW w'→Pur Tryz.prog (Gn m) 43 [.agg (encSt (fullS (1+(k:Int)) w 6)),.agg (encSo src),.c (.int .i64 (1+(k:Int))),.agg (encW w')] [.agg (encSt (pushT (fullS (1+(k:Int)) w 6) src (1+(k:Int)) w').1),.agg (encSo (pushT (fullS (1+(k:Int)) w 6) src (1+(k:Int)) w').2.1),.c (.int .i64 (pushT (fullS (1+(k:Int)) w 6) src (1+(k:Int)) w').2.2.1),.c (.int .i64 (pushT (fullS (1+(k:Int)) w 6) src (1+(k:Int)) w').2.2.2)]:=fun src hs w' hw =>
  push_ok (Gn_len m) (fullS (1+(k:Int)) w 6) (fullS_fit _ _ 6 oM) (by show (fullL _ _ 6).length≤_;rw [fullL_len];omega) src hs (1+(k:Int)) w' hw
 have d1:=p6 ⟨106,1,0⟩ ⟨by decide,by decide,by decide⟩ w f4
 rw [pushT_in _ _ (1+(k:Int)) k w oM rfl hk,if_pos q1,putsF6] at d1
 have d2:=p6 ⟨106,1,0⟩ ⟨by decide,by decide,by decide⟩ _ f5
 rw [pushT_in _ _ (1+(k:Int)) k _ oM rfl hk,q2,if_neg dC] at d2
 have d3:=p6 ⟨106,1,60⟩ ⟨by decide,by decide,by decide⟩ w f4
 rw [pushT_in _ _ (1+(k:Int)) k w oM rfl hk,if_pos q1,putsFl] at d3
 have d4:=p6 ⟨1073741825,1,60⟩ ⟨by decide,by decide,by decide⟩ w f4
 rw [pushT_in _ _ (1+(k:Int)) k w oM rfl hk,if_pos q1,putsFn] at d4
 have d5:=same20G_ok (G:=Gn m) (fullS (1+(k:Int)) w 6) (fullS (1+(k:Int)) w 6) (fullS_fit _ _ 6 oM)
 rw [sameS_self] at d5
 clear p6 q1 q2
 refine zg [(1,{cs:=[(0,pc c1)]}),(3,{cs:=[(0,pc c2)]}),(4,{cs:=[(1,pc c3)]})] [false] [(!true)=false,inR .i64 (1+(k:Int))] ⟨rfl,i6⟩ ?_
 refine zl (fun (i:Nat)=>⟨[(3,.v (.c (.ptr 112 0))),(4,.v (.c (.ptr 128 0))),(5,.v (.c (.int .i64 ((1:Int)+(k:Int))))),(6,.v (.c (.int .i64 (i:Int))))],[(112,.box 67 (encSt (fullS (1+(k:Int)) w i))),(128,.box 69 (encSo (srcF i)))],256⟩) (fun i=>i≤6) (fun i=>6-i) 0 (Nat.zero_le _) ?_
 intro i L hi again
 rcases Nat.lt_or_ge i 6 with hlt | hge
 ·have cu:=pu i hlt
  clear pu d1 d2 d3 d4 d5
  refine zg [(8,{cs:=[(4,pc c4),(5,pc cu)]})] [true,false] [decide ((i:Int)<6)=true,((0:Int) != (0:Int))=false,inR .i64 ((i:Int)+1)] ⟨sO,rfl,i6⟩ ?_
  exact za [] (again _ (i+1) aS oM)
 ·obtain rfl:i=6:=by omega
  refine zg [(12,{cs:=[(4,pc c4),(5,pc d1)]}),(13,{cs:=[(1,pc c4)]}),(15,{cs:=[(4,pc d2)]}),(18,{cs:=[(4,pc c4),(5,pc d3)]}),(21,{cs:=[(4,pc c4),(5,pc d4)]}),(22,{cs:=[(5,pc d5)]})] [false] [decide ((↑(6:Nat):Int)<(6:Int))=false] rfl ?_
  exact zr
theorem putsT_err {s:StT} {src:SoT} {c:Int} {w:WT} (h:(putsT s src c w).2.1≠0):(putsT s src c w).2.2=(s,src):=by
 revert h
 unfold putsT
 split
 ·intro _;rfl
 ·split
  ·intro h;exact (h rfl).elim
  ·intro _;rfl
theorem pushT_err {s:StT} {src:SoT} {n:Int} {w:WT} (h:(pushT s src n w).2.2.2≠0):(pushT s src n w).1=s∧(pushT s src n w).2.1=src:=by
 revert h
 unfold pushT
 split
 ·intro _;exact ⟨rfl,rfl⟩
 ·split
  ·intro h
   have:=putsT_err (s:=s) (src:=src) (c:=n) (w:=w) h
   exact ⟨congrArg Prod.fst this,congrArg Prod.snd this⟩
  ·intro _;exact ⟨rfl,rfl⟩
theorem putS_len (l:List RcT) (now:Int) (r:RcT):(putS l now r).1.length≤l.length+1:=by
 unfold putS
 have:=live_len now l
 split
 ·exact Nat.le_succ _
 split
 ·exact Nat.le_succ _
 split
 ·exact Nat.le_succ _
 ·simp only [List.length_append,List.length_cons,List.length_nil];omega
theorem pushT_keep (s:StT) (src:SoT) (n:Int) (w:WT):(pushT s src n w).1.name=s.name∧(pushT s src n w).1.key=s.key∧(pushT s src n w).1.cls=s.cls∧(pushT s src n w).1.usr=s.usr∧(pushT s src n w).1.recs.length≤s.recs.length+1 ∧
  (pushT s src n w).2.1.now=src.now∧src.n≤(pushT s src n w).2.1.n∧(pushT s src n w).2.1.n≤src.n+1∧(pushT s src n w).2.1.conn=src.conn:=by
 have hp:=putS_len s.recs src.now (pRec n w src.n (src.now+60))
 unfold pushT
 split
 ·exact ⟨rfl,rfl,rfl,rfl,Nat.le_succ _,rfl,Int.le_refl _,by show src.n≤src.n+1;omega,rfl⟩
 split
 ·unfold putsT
  split
  ·exact ⟨rfl,rfl,rfl,rfl,Nat.le_succ _,rfl,Int.le_refl _,by show src.n≤src.n+1;omega,rfl⟩
  split
  ·exact ⟨rfl,rfl,rfl,rfl,hp,rfl,by show src.n≤src.n+1;omega,Int.le_refl _,rfl⟩
  ·exact ⟨rfl,rfl,rfl,rfl,Nat.le_succ _,rfl,Int.le_refl _,by show src.n≤src.n+1;omega,rfl⟩
 ·exact ⟨rfl,rfl,rfl,rfl,Nat.le_succ _,rfl,Int.le_refl _,by show src.n≤src.n+1;omega,rfl⟩
structure PlayS (i:Nat) (s:StT) (src:SoT):Prop where
 cls:s.cls=baseC
 usr:s.usr=baseU
 recs:s.recs.length≤i
 now0:0≤src.now
 now1:src.now≤40*(i:Int)
 n0:100≤src.n
 n1:src.n≤100+(i:Int)
theorem PlayS.fit {i:Nat} {s:StT} {src:SoT} (h:PlayS i s src) (hi:i≤100):FitS s:=⟨by rw [h.cls];decide,by rw [h.usr];decide,by have:=h.recs;omega,by rw [h.cls];exact fitC_base⟩
def pick4 (raw:Int) (j:Nat):Int:=([0,4,-1,raw]:List Int).getD j 0
theorem pushPlays_ok {m:Int} (ns:List Int) (raw:Int) (hl:ns.length≤9223372036854775807):Pur Tryz.prog (Gn m) 6 [.c (.sl 1 ns.length (intsF ns)),.c (.int .i64 raw)] [.c (.bool true)]:=by
 refine zp Tryz.func6 ?_
 have c1:=known20_ok (Gn_len m)
 have c3:=base_ok (G:=Gn m)
 refine zg [(1,{cs:=[(0,pc c1)]}),(3,{cs:=[(0,pc c3)]})] [false] [(!true)=false] rfl ?_
 refine zl (fun (x:Nat×Nat×StT×Int×Int×Int)=>⟨[(1,.v (.c (.int .i64 raw))),(5,.v (.c (.ptr 112 0))),(6,.v (.c (.ptr 128 0))),(7,.v (.c (.ptr 208 0))),(8,.v (.c (.int .i64 (x.1:Int))))],[(112,.box 67 (encSt x.2.2.1)),(128,.box 69 [.int .i64 x.2.2.2.1,.int .i64 x.2.2.2.2.1,.int .i64 x.2.2.2.2.2]),(208,tapeB ns x.2.1)],256⟩) (fun x=>x.1≤30∧PlayS x.1 x.2.2.1 ⟨x.2.2.2.1,x.2.2.2.2.1,x.2.2.2.2.2⟩) (fun x=>30-x.1) (0,0,baseT,100,1,0) ⟨by decide,⟨rfl,rfl,by decide,by decide,by decide,by decide,by decide⟩⟩ ?_
 rintro ⟨i,a,s,sn0,sc0,st0⟩ L ⟨hi,hp⟩ again
 simp only at hi hp
 obtain ⟨hcls,husr,hrec,hn0,hn1,hs0,hs1⟩:=hp
 simp only at hn0 hn1 hs0 hs1
 rcases Nat.lt_or_ge i 30 with hlt | hge
 ·have m1:=more1_ok (G:=Gn m) ns a
  cases hmore:decide (a<ns.length) with
  | false =>
   rw [hmore] at m1
   refine zg [(6,{grd:=[(3,true),(4,true)],cs:=[(4,cb [208] m1)]})] [false] [decide ((i:Int)<30)=true,decide ((i:Int)<30)=true,(bif decide ((i:Int)<(30:Int)) then false else false)=false] ⟨sO,sO,(show (bif decide ((↑i:Int)<(30:Int)) then false else false)=false from (by simp;done))⟩ ?_
   exact zr
  | true =>
   rw [hmore] at m1
   clear hmore
   have hfs:FitS s:=PlayS.fit (i:=i) (src:=⟨sn0,sc0,st0⟩) ⟨hcls,husr,hrec,hn0,hn1,hs0,hs1⟩ oM
   have n1:=next_ok (G:=Gn m) ns a 5 hl dC
   generalize nextV ns a 5=v0 at n1
   generalize nextA ns a 5=a1 at n1
   by_cases hv:v0=0
   ·subst hv
    have n2:=next_ok (G:=Gn m) ns a1 40 hl dC
    have r2:=nextV_rng ns a1 40 dC
    generalize nextV ns a1 40=dt at n2 r2
    generalize nextA ns a1 40=a2 at n2
    have n3:=next_ok (G:=Gn m) ns a2 3 hl dC
    have r3:=nextV_rng ns a2 3 dC
    generalize nextV ns a2 3=q3 at n3 r3
    generalize nextA ns a2 3=a3 at n3
    have w1:=want_ok (G:=Gn m) ns a3 (1+q3) oM oM hl
    have hw:=(fit_want ns a3 (1+q3)).fit
    generalize wantT ns a3 (1+q3)=wa at w1 hw
    obtain ⟨w,a4⟩:=wa
    simp only at hw
    have n4:=next_ok (G:=Gn m) ns a4 9 hl dC
    generalize nextV ns a4 9=v4 at n4
    generalize nextA ns a4 9=a5 at n4
    by_cases hq:v4=0
    ·subst hq
     have n5:=next_ok (G:=Gn m) ns a5 4 hl dC
     have r5:=nextV_rng ns a5 4 dC
     generalize nextV ns a5 4=q5 at n5 r5
     generalize nextA ns a5 4=a6 at n5
     obtain ⟨j5,rfl⟩:∃ j:Nat,q5=(j:Int):=⟨q5.toNat,by omega⟩
     have e5:EqvD (.c (.int .i64 (pick4 raw j5))) (.c (.int .i64 (pick4 raw j5))):=fun _ _ _ h=>h
     have hfr:FitR ⟨sn0,sc0,st0+dt⟩:=⟨by show (0:Int)≤st0+dt;omega,by show st0+dt≤(1000000000:Int);omega,by show (-1000000000000:Int)≤sn0;omega⟩
     have d1:=push_ok (Gn_len m) s hfs oM ⟨sn0,sc0,st0+dt⟩ hfr (pick4 raw j5) w hw
     have d2:=push20_ok (G:=Gn m) s hfs oM ⟨sn0,sc0,st0+dt⟩ hfr (pick4 raw j5) w hw
     have hk:=pushT_keep s ⟨sn0,sc0,st0+dt⟩ (pick4 raw j5) w
     have he:=pushT_err (s:=s) (src:=⟨sn0,sc0,st0+dt⟩) (n:=(pick4 raw j5)) (w:=w)
     generalize pushT s ⟨sn0,sc0,st0+dt⟩ (pick4 raw j5) w=p at d1 d2 hk he
     obtain ⟨s2,⟨sn,sc,st⟩,key,e⟩:=p
     obtain ⟨k1,k2,k3,k4,k5,k6,k7,k8,k9⟩:=hk
     simp only at k1 k2 k3 k4 k5 k6 k7 k8 k9
     have hp2:PlayS (i+1) s2 ⟨sn,sc,st⟩:=⟨by rw [k3];exact hcls,by rw [k4];exact husr,by omega,by show 0≤st;omega,by show st≤40*((i+1:Nat):Int);omega,by show 100≤sn;omega,by show sn≤100+((i+1:Nat):Int);omega⟩
     have d3:=same20_ok (G:=Gn m) s2 (hp2.fit oM)
     have d4:=same20G_ok (G:=Gn m) s2 s (hp2.fit oM)
     by_cases hz:e=0
     ·subst hz
      clear he
      generalize sameS s2 s=bb at d4
      refine zg [(13,{cs:=[(3,cb [208] n5)],fm:=[(1,.c (.sl 1 4 (intsF [0,4,-1,raw]))),(5,.c (.int .i64 (pick4 raw j5)))]}),(6,{grd:=[(3,true),(4,true)],cs:=[(4,cb [208] m1)]}),(8,{cs:=[(1,cb [208] n1)]}),(9,{cs:=[(3,cb [208] n2)]}),(10,{cs:=[(1,cb [208] n3)]}),(11,{cs:=[(2,cb [208] w1)]}),(12,{cs:=[(1,cb [208] n4)]}),(14,{cs:=[(4,pc d1)]}),(15,{cs:=[(4,pc d2)]}),(16,{cs:=[(2,pc d3),(25,pc d4)]})] [true,true,true,false] [decide ((i:Int)<30)=true,decide ((i:Int)<30)=true,(bif decide ((i:Int)<(30:Int)) then true else false)=true,((0:Int)==(0:Int))=true,inR .i64 (st0+dt),inR .i64 (1+q3),((0:Int)==(0:Int))=true,EqvI (.c (.sl 1 (4:Nat) fun i j=>nthD [.int .i64 0,.int .i64 4,.int .i64 (-1:Int),.int .i64 raw] (i*(1:Nat)+j))) (.c (.sl 1 (4:Nat) (intsF [(0:Int),(4:Int),(-1:Int),raw]))),EqvD (.c (.sl 1 (4:Nat) fun i j=>nthD [.int .i64 0,.int .i64 4,.int .i64 (-1:Int),.int .i64 raw] (i*(1:Nat)+j))) (.c (.sl 1 (4:Nat) (intsF [(0:Int),(4:Int),(-1:Int),raw]))),(0:Int)≤(j5:Int)∧(j5:Int)<(↑(4:Nat):Int),EqvD (.c (intsF [(0:Int),(4:Int),(-1:Int),raw] j5 (0:Nat))) (.c (.int .i64 (pick4 raw j5))),(bif bif bif bif !true then true else !(sn==sn&&(sc==sc&&(st==st&&true))) then true else key != key then true else (0:Int) != (0:Int) then true else bif (0:Int) != (0:Int) then bif !bb then true else !(sn==sn0&&(sc==sc0&&(st==st0+dt&&true))) else false)=false,inR .i64 ((i:Int)+1)] ⟨sO,sO,sO,rfl,i6,i6,rfl,fun _ _=>trivial,lit_D kR,oM,aS,(by simp;done),i6⟩ ?_
      exact za [] (again _ (i+1,a6,s2,sn,sc,st) ⟨aS,aS⟩ oM)
     ·obtain ⟨h1,h2⟩:=he hz
      have t9:(e != 0)=true:=bne_iff_ne.2 hz
      clear he d4
      simp only at h1 h2
      subst h1
      injection h2 with h2 h3 h4
      subst h2 h3 h4
      refine zg [(13,{cs:=[(3,cb [208] n5)],fm:=[(1,.c (.sl 1 4 (intsF [0,4,-1,raw]))),(5,.c (.int .i64 (pick4 raw j5)))]}),(6,{grd:=[(3,true),(4,true)],cs:=[(4,cb [208] m1)]}),(8,{cs:=[(1,cb [208] n1)]}),(9,{cs:=[(3,cb [208] n2)]}),(10,{cs:=[(1,cb [208] n3)]}),(11,{cs:=[(2,cb [208] w1)]}),(12,{cs:=[(1,cb [208] n4)]}),(14,{cs:=[(4,pc d1)]}),(15,{cs:=[(4,pc d2)]}),(16,{cs:=[(2,pc d3),(25,pc d3)]})] [true,true,true,false] [decide ((i:Int)<30)=true,decide ((i:Int)<30)=true,(bif decide ((i:Int)<(30:Int)) then true else false)=true,((0:Int)==(0:Int))=true,inR .i64 (st0+dt),inR .i64 (1+q3),((0:Int)==(0:Int))=true,EqvI (.c (.sl 1 (4:Nat) fun i j=>nthD [.int .i64 0,.int .i64 4,.int .i64 (-1:Int),.int .i64 raw] (i*(1:Nat)+j))) (.c (.sl 1 (4:Nat) (intsF [(0:Int),(4:Int),(-1:Int),raw]))),EqvD (.c (.sl 1 (4:Nat) fun i j=>nthD [.int .i64 0,.int .i64 4,.int .i64 (-1:Int),.int .i64 raw] (i*(1:Nat)+j))) (.c (.sl 1 (4:Nat) (intsF [(0:Int),(4:Int),(-1:Int),raw]))),(0:Int)≤(j5:Int)∧(j5:Int)<(↑(4:Nat):Int),EqvD (.c (intsF [(0:Int),(4:Int),(-1:Int),raw] j5 (0:Nat))) (.c (.int .i64 (pick4 raw j5))),(bif bif bif bif !true then true else !(sn==sn&&(sc==sc&&(st0+dt==st0+dt&&true))) then true else key != key then true else e != e then true else bif e != (0:Int) then bif !true then true else !(sn==sn&&(sc==sc&&(st0+dt==st0+dt&&true))) else false)=false,inR .i64 ((i:Int)+1)] ⟨sO,sO,sO,rfl,i6,i6,rfl,fun _ _=>trivial,lit_D kR,oM,aS,(by simp;done),i6⟩ ?_
      exact za [] (again _ (i+1,a6,s2,sn,sc,st0+dt) ⟨aS,aS⟩ oM)
    ·have tq:(v4==0)=false:=beq_eq_false_iff_ne.2 hq
     clear hq
     have hfr:FitR ⟨sn0,sc0,st0+dt⟩:=⟨by show (0:Int)≤st0+dt;omega,by show st0+dt≤(1000000000:Int);omega,by show (-1000000000000:Int)≤sn0;omega⟩
     have d1:=push_ok (Gn_len m) s hfs oM ⟨sn0,sc0,st0+dt⟩ hfr (1+q3) w hw
     have d2:=push20_ok (G:=Gn m) s hfs oM ⟨sn0,sc0,st0+dt⟩ hfr (1+q3) w hw
     have hk:=pushT_keep s ⟨sn0,sc0,st0+dt⟩ (1+q3) w
     have he:=pushT_err (s:=s) (src:=⟨sn0,sc0,st0+dt⟩) (n:=(1+q3)) (w:=w)
     generalize pushT s ⟨sn0,sc0,st0+dt⟩ (1+q3) w=p at d1 d2 hk he
     obtain ⟨s2,⟨sn,sc,st⟩,key,e⟩:=p
     obtain ⟨k1,k2,k3,k4,k5,k6,k7,k8,k9⟩:=hk
     simp only at k1 k2 k3 k4 k5 k6 k7 k8 k9
     have hp2:PlayS (i+1) s2 ⟨sn,sc,st⟩:=⟨by rw [k3];exact hcls,by rw [k4];exact husr,by omega,by show 0≤st;omega,by show st≤40*((i+1:Nat):Int);omega,by show 100≤sn;omega,by show sn≤100+((i+1:Nat):Int);omega⟩
     have d3:=same20_ok (G:=Gn m) s2 (hp2.fit oM)
     have d4:=same20G_ok (G:=Gn m) s2 s (hp2.fit oM)
     by_cases hz:e=0
     ·subst hz
      clear he
      generalize sameS s2 s=bb at d4
      refine zg [(6,{grd:=[(3,true),(4,true)],cs:=[(4,cb [208] m1)]}),(8,{cs:=[(1,cb [208] n1)]}),(9,{cs:=[(3,cb [208] n2)]}),(10,{cs:=[(1,cb [208] n3)]}),(11,{cs:=[(2,cb [208] w1)]}),(12,{cs:=[(1,cb [208] n4)]}),(14,{cs:=[(4,pc d1)]}),(15,{cs:=[(4,pc d2)]}),(16,{cs:=[(2,pc d3),(25,pc d4)]})] [true,true,false,false] [decide ((i:Int)<30)=true,decide ((i:Int)<30)=true,(bif decide ((i:Int)<(30:Int)) then true else false)=true,((0:Int)==(0:Int))=true,inR .i64 (st0+dt),inR .i64 (1+q3),(v4==(0:Int))=false,(bif bif bif bif !true then true else !(sn==sn&&(sc==sc&&(st==st&&true))) then true else key != key then true else (0:Int) != (0:Int) then true else bif (0:Int) != (0:Int) then bif !bb then true else !(sn==sn0&&(sc==sc0&&(st==st0+dt&&true))) else false)=false,inR .i64 ((i:Int)+1)] ⟨sO,sO,sO,rfl,i6,i6,aS,(by simp;done),i6⟩ ?_
      exact za [] (again _ (i+1,a5,s2,sn,sc,st) ⟨aS,aS⟩ oM)
     ·obtain ⟨h1,h2⟩:=he hz
      have t9:(e != 0)=true:=bne_iff_ne.2 hz
      clear he d4
      simp only at h1 h2
      subst h1
      injection h2 with h2 h3 h4
      subst h2 h3 h4
      refine zg [(6,{grd:=[(3,true),(4,true)],cs:=[(4,cb [208] m1)]}),(8,{cs:=[(1,cb [208] n1)]}),(9,{cs:=[(3,cb [208] n2)]}),(10,{cs:=[(1,cb [208] n3)]}),(11,{cs:=[(2,cb [208] w1)]}),(12,{cs:=[(1,cb [208] n4)]}),(14,{cs:=[(4,pc d1)]}),(15,{cs:=[(4,pc d2)]}),(16,{cs:=[(2,pc d3),(25,pc d3)]})] [true,true,false,false] [decide ((i:Int)<30)=true,decide ((i:Int)<30)=true,(bif decide ((i:Int)<(30:Int)) then true else false)=true,((0:Int)==(0:Int))=true,inR .i64 (st0+dt),inR .i64 (1+q3),(v4==(0:Int))=false,(bif bif bif bif !true then true else !(sn==sn&&(sc==sc&&(st0+dt==st0+dt&&true))) then true else key != key then true else e != e then true else bif e != (0:Int) then bif !true then true else !(sn==sn&&(sc==sc&&(st0+dt==st0+dt&&true))) else false)=false,inR .i64 ((i:Int)+1)] ⟨sO,sO,sO,rfl,i6,i6,aS,(by simp;done),i6⟩ ?_
      exact za [] (again _ (i+1,a5,s2,sn,sc,st0+dt) ⟨aS,aS⟩ oM)
   ·have tv:(v0==0)=false:=beq_eq_false_iff_ne.2 hv
    clear hv
    have n3:=next_ok (G:=Gn m) ns a1 3 hl dC
    have r3:=nextV_rng ns a1 3 dC
    generalize nextV ns a1 3=q3 at n3 r3
    generalize nextA ns a1 3=a3 at n3
    have w1:=want_ok (G:=Gn m) ns a3 (1+q3) oM oM hl
    have hw:=(fit_want ns a3 (1+q3)).fit
    generalize wantT ns a3 (1+q3)=wa at w1 hw
    obtain ⟨w,a4⟩:=wa
    simp only at hw
    have n4:=next_ok (G:=Gn m) ns a4 9 hl dC
    generalize nextV ns a4 9=v4 at n4
    generalize nextA ns a4 9=a5 at n4
    by_cases hq:v4=0
    ·subst hq
     have n5:=next_ok (G:=Gn m) ns a5 4 hl dC
     have r5:=nextV_rng ns a5 4 dC
     generalize nextV ns a5 4=q5 at n5 r5
     generalize nextA ns a5 4=a6 at n5
     obtain ⟨j5,rfl⟩:∃ j:Nat,q5=(j:Int):=⟨q5.toNat,by omega⟩
     have e5:EqvD (.c (.int .i64 (pick4 raw j5))) (.c (.int .i64 (pick4 raw j5))):=fun _ _ _ h=>h
     have hfr:FitR ⟨sn0,sc0,st0⟩:=⟨by show (0:Int)≤st0;omega,by show st0≤(1000000000:Int);omega,by show (-1000000000000:Int)≤sn0;omega⟩
     have d1:=push_ok (Gn_len m) s hfs oM ⟨sn0,sc0,st0⟩ hfr (pick4 raw j5) w hw
     have d2:=push20_ok (G:=Gn m) s hfs oM ⟨sn0,sc0,st0⟩ hfr (pick4 raw j5) w hw
     have hk:=pushT_keep s ⟨sn0,sc0,st0⟩ (pick4 raw j5) w
     have he:=pushT_err (s:=s) (src:=⟨sn0,sc0,st0⟩) (n:=(pick4 raw j5)) (w:=w)
     generalize pushT s ⟨sn0,sc0,st0⟩ (pick4 raw j5) w=p at d1 d2 hk he
     obtain ⟨s2,⟨sn,sc,st⟩,key,e⟩:=p
     obtain ⟨k1,k2,k3,k4,k5,k6,k7,k8,k9⟩:=hk
     simp only at k1 k2 k3 k4 k5 k6 k7 k8 k9
     have hp2:PlayS (i+1) s2 ⟨sn,sc,st⟩:=⟨by rw [k3];exact hcls,by rw [k4];exact husr,by omega,by show 0≤st;omega,by show st≤40*((i+1:Nat):Int);omega,by show 100≤sn;omega,by show sn≤100+((i+1:Nat):Int);omega⟩
     have d3:=same20_ok (G:=Gn m) s2 (hp2.fit oM)
     have d4:=same20G_ok (G:=Gn m) s2 s (hp2.fit oM)
     by_cases hz:e=0
     ·subst hz
      clear he
      generalize sameS s2 s=bb at d4
      refine zg [(13,{cs:=[(3,cb [208] n5)],fm:=[(1,.c (.sl 1 4 (intsF [0,4,-1,raw]))),(5,.c (.int .i64 (pick4 raw j5)))]}),(6,{grd:=[(3,true),(4,true)],cs:=[(4,cb [208] m1)]}),(8,{cs:=[(1,cb [208] n1)]}),(10,{cs:=[(1,cb [208] n3)]}),(11,{cs:=[(2,cb [208] w1)]}),(12,{cs:=[(1,cb [208] n4)]}),(14,{cs:=[(4,pc d1)]}),(15,{cs:=[(4,pc d2)]}),(16,{cs:=[(2,pc d3),(25,pc d4)]})] [true,false,true,false] [decide ((i:Int)<30)=true,decide ((i:Int)<30)=true,(bif decide ((i:Int)<(30:Int)) then true else false)=true,(v0==(0:Int))=false,inR .i64 (1+q3),((0:Int)==(0:Int))=true,EqvI (.c (.sl 1 (4:Nat) fun i j=>nthD [.int .i64 0,.int .i64 4,.int .i64 (-1:Int),.int .i64 raw] (i*(1:Nat)+j))) (.c (.sl 1 (4:Nat) (intsF [(0:Int),(4:Int),(-1:Int),raw]))),EqvD (.c (.sl 1 (4:Nat) fun i j=>nthD [.int .i64 0,.int .i64 4,.int .i64 (-1:Int),.int .i64 raw] (i*(1:Nat)+j))) (.c (.sl 1 (4:Nat) (intsF [(0:Int),(4:Int),(-1:Int),raw]))),(0:Int)≤(j5:Int)∧(j5:Int)<(↑(4:Nat):Int),EqvD (.c (intsF [(0:Int),(4:Int),(-1:Int),raw] j5 (0:Nat))) (.c (.int .i64 (pick4 raw j5))),(bif bif bif bif !true then true else !(sn==sn&&(sc==sc&&(st==st&&true))) then true else key != key then true else (0:Int) != (0:Int) then true else bif (0:Int) != (0:Int) then bif !bb then true else !(sn==sn0&&(sc==sc0&&(st==st0&&true))) else false)=false,inR .i64 ((i:Int)+1)] ⟨sO,sO,sO,aS,i6,rfl,fun _ _=>trivial,lit_D kR,oM,aS,(by simp;done),i6⟩ ?_
      exact za [] (again _ (i+1,a6,s2,sn,sc,st) ⟨aS,aS⟩ oM)
     ·obtain ⟨h1,h2⟩:=he hz
      have t9:(e != 0)=true:=bne_iff_ne.2 hz
      clear he d4
      simp only at h1 h2
      subst h1
      injection h2 with h2 h3 h4
      subst h2 h3 h4
      refine zg [(13,{cs:=[(3,cb [208] n5)],fm:=[(1,.c (.sl 1 4 (intsF [0,4,-1,raw]))),(5,.c (.int .i64 (pick4 raw j5)))]}),(6,{grd:=[(3,true),(4,true)],cs:=[(4,cb [208] m1)]}),(8,{cs:=[(1,cb [208] n1)]}),(10,{cs:=[(1,cb [208] n3)]}),(11,{cs:=[(2,cb [208] w1)]}),(12,{cs:=[(1,cb [208] n4)]}),(14,{cs:=[(4,pc d1)]}),(15,{cs:=[(4,pc d2)]}),(16,{cs:=[(2,pc d3),(25,pc d3)]})] [true,false,true,false] [decide ((i:Int)<30)=true,decide ((i:Int)<30)=true,(bif decide ((i:Int)<(30:Int)) then true else false)=true,(v0==(0:Int))=false,inR .i64 (1+q3),((0:Int)==(0:Int))=true,EqvI (.c (.sl 1 (4:Nat) fun i j=>nthD [.int .i64 0,.int .i64 4,.int .i64 (-1:Int),.int .i64 raw] (i*(1:Nat)+j))) (.c (.sl 1 (4:Nat) (intsF [(0:Int),(4:Int),(-1:Int),raw]))),EqvD (.c (.sl 1 (4:Nat) fun i j=>nthD [.int .i64 0,.int .i64 4,.int .i64 (-1:Int),.int .i64 raw] (i*(1:Nat)+j))) (.c (.sl 1 (4:Nat) (intsF [(0:Int),(4:Int),(-1:Int),raw]))),(0:Int)≤(j5:Int)∧(j5:Int)<(↑(4:Nat):Int),EqvD (.c (intsF [(0:Int),(4:Int),(-1:Int),raw] j5 (0:Nat))) (.c (.int .i64 (pick4 raw j5))),(bif bif bif bif !true then true else !(sn==sn&&(sc==sc&&(st==st&&true))) then true else key != key then true else e != e then true else bif e != (0:Int) then bif !true then true else !(sn==sn&&(sc==sc&&(st==st&&true))) else false)=false,inR .i64 ((i:Int)+1)] ⟨sO,sO,sO,aS,i6,rfl,fun _ _=>trivial,lit_D kR,oM,aS,(by simp;done),i6⟩ ?_
      exact za [] (again _ (i+1,a6,s2,sn,sc,st) ⟨aS,aS⟩ oM)
    ·have tq:(v4==0)=false:=beq_eq_false_iff_ne.2 hq
     clear hq
     have hfr:FitR ⟨sn0,sc0,st0⟩:=⟨by show (0:Int)≤st0;omega,by show st0≤(1000000000:Int);omega,by show (-1000000000000:Int)≤sn0;omega⟩
     have d1:=push_ok (Gn_len m) s hfs oM ⟨sn0,sc0,st0⟩ hfr (1+q3) w hw
     have d2:=push20_ok (G:=Gn m) s hfs oM ⟨sn0,sc0,st0⟩ hfr (1+q3) w hw
     have hk:=pushT_keep s ⟨sn0,sc0,st0⟩ (1+q3) w
     have he:=pushT_err (s:=s) (src:=⟨sn0,sc0,st0⟩) (n:=(1+q3)) (w:=w)
     generalize pushT s ⟨sn0,sc0,st0⟩ (1+q3) w=p at d1 d2 hk he
     obtain ⟨s2,⟨sn,sc,st⟩,key,e⟩:=p
     obtain ⟨k1,k2,k3,k4,k5,k6,k7,k8,k9⟩:=hk
     simp only at k1 k2 k3 k4 k5 k6 k7 k8 k9
     have hp2:PlayS (i+1) s2 ⟨sn,sc,st⟩:=⟨by rw [k3];exact hcls,by rw [k4];exact husr,by omega,by show 0≤st;omega,by show st≤40*((i+1:Nat):Int);omega,by show 100≤sn;omega,by show sn≤100+((i+1:Nat):Int);omega⟩
     have d3:=same20_ok (G:=Gn m) s2 (hp2.fit oM)
     have d4:=same20G_ok (G:=Gn m) s2 s (hp2.fit oM)
     by_cases hz:e=0
     ·subst hz
      clear he
      generalize sameS s2 s=bb at d4
      refine zg [(6,{grd:=[(3,true),(4,true)],cs:=[(4,cb [208] m1)]}),(8,{cs:=[(1,cb [208] n1)]}),(10,{cs:=[(1,cb [208] n3)]}),(11,{cs:=[(2,cb [208] w1)]}),(12,{cs:=[(1,cb [208] n4)]}),(14,{cs:=[(4,pc d1)]}),(15,{cs:=[(4,pc d2)]}),(16,{cs:=[(2,pc d3),(25,pc d4)]})] [true,false,false,false] [decide ((i:Int)<30)=true,decide ((i:Int)<30)=true,(bif decide ((i:Int)<(30:Int)) then true else false)=true,(v0==(0:Int))=false,inR .i64 (1+q3),(v4==(0:Int))=false,(bif bif bif bif !true then true else !(sn==sn&&(sc==sc&&(st==st&&true))) then true else key != key then true else (0:Int) != (0:Int) then true else bif (0:Int) != (0:Int) then bif !bb then true else !(sn==sn0&&(sc==sc0&&(st==st0&&true))) else false)=false,inR .i64 ((i:Int)+1)] ⟨sO,sO,sO,aS,i6,aS,(by simp;done),i6⟩ ?_
      exact za [] (again _ (i+1,a5,s2,sn,sc,st) ⟨aS,aS⟩ oM)
     ·obtain ⟨h1,h2⟩:=he hz
      have t9:(e != 0)=true:=bne_iff_ne.2 hz
      clear he d4
      simp only at h1 h2
      subst h1
      injection h2 with h2 h3 h4
      subst h2 h3 h4
      refine zg [(6,{grd:=[(3,true),(4,true)],cs:=[(4,cb [208] m1)]}),(8,{cs:=[(1,cb [208] n1)]}),(10,{cs:=[(1,cb [208] n3)]}),(11,{cs:=[(2,cb [208] w1)]}),(12,{cs:=[(1,cb [208] n4)]}),(14,{cs:=[(4,pc d1)]}),(15,{cs:=[(4,pc d2)]}),(16,{cs:=[(2,pc d3),(25,pc d3)]})] [true,false,false,false] [decide ((i:Int)<30)=true,decide ((i:Int)<30)=true,(bif decide ((i:Int)<(30:Int)) then true else false)=true,(v0==(0:Int))=false,inR .i64 (1+q3),(v4==(0:Int))=false,(bif bif bif bif !true then true else !(sn==sn&&(sc==sc&&(st==st&&true))) then true else key != key then true else e != e then true else bif e != (0:Int) then bif !true then true else !(sn==sn&&(sc==sc&&(st==st&&true))) else false)=false,inR .i64 ((i:Int)+1)] ⟨sO,sO,sO,aS,i6,aS,(by simp;done),i6⟩ ?_
      exact za [] (again _ (i+1,a5,s2,sn,sc,st) ⟨aS,aS⟩ oM)
 ·obtain rfl:i=30:=by omega
  refine zg [(6,{grd:=[(3,false),(4,false),(5,false)]})] [false] [decide ((↑(30:Nat):Int)<(30:Int)) = !true,decide ((↑(30:Nat):Int)<(30:Int)) = !true,decide ((↑(30:Nat):Int)<(30:Int))=false,false=false] ⟨rfl,rfl,rfl,rfl⟩ ?_
  exact zr
end Go.Proofs.Tw
end
