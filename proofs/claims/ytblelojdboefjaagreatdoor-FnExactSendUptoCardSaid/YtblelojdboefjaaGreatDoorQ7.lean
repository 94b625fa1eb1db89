/- The tables' entries as laws for simp. Printed by genv.py. -/
import Derived.Test.YtblelojdboefjaaGreatDoorQ1
import Derived.Test.YtblelojdboefjaaGreatDoorQ3
import Derived.Test.YtblelojdboefjaaGreatDoorQ6
import Derived.IntWalk
import Derived.KernelRfl
set_option linter.all false
set_option maxRecDepth 100000
namespace Go.Proofs.YtblelojdboefjaaGreatDoor.R
open Go
@[go_sem] theorem ty_2:tsl 2=none∧tsz 2=some 1∧tby 2=some 8∧tag 2=some false∧tzr 2=some [.i .i64 0]∧tik 2=some .i64∧tst 2=false∧tbo 2=false:=⟨rfl,rfl,rfl,rfl,rfl,rfl,rfl,rfl⟩
@[go_sem] theorem ty_3:tsl 3=none∧tsz 3=some 1∧tby 3=some 8∧tag 3=some false∧tzr 3=some [.i .i64 0]∧tik 3=some .i64∧tst 3=false∧tbo 3=false:=⟨rfl,rfl,rfl,rfl,rfl,rfl,rfl,rfl⟩
@[go_sem] theorem ty_4:tsl 4=none∧tsz 4=some 1∧tby 4=some 1∧tag 4=some false∧tzr 4=some [.b false]∧tik 4=none∧tst 4=false∧tbo 4=true:=⟨rfl,rfl,rfl,rfl,rfl,rfl,rfl,rfl⟩
@[go_sem] theorem ty_5:tsl 5=none∧tsz 5=some 1∧tby 5=some 1∧tag 5=some false∧tzr 5=some [.i .u8 0]∧tik 5=some .u8∧tst 5=false∧tbo 5=false:=⟨rfl,rfl,rfl,rfl,rfl,rfl,rfl,rfl⟩
@[go_sem] theorem ty_6:tsl 6=none∧tsz 6=some 1∧tby 6=some 1∧tag 6=some false∧tzr 6=some [.i .u8 0]∧tik 6=some .u8∧tst 6=false∧tbo 6=false:=⟨rfl,rfl,rfl,rfl,rfl,rfl,rfl,rfl⟩
@[go_sem] theorem ty_7:tsl 7=none∧tsz 7=some 4∧tby 7=some 24∧tag 7=some true∧tzr 7=some [.i .i64 0,.i .i64 0,.b false,.i .u8 0]∧tfs 7=[(0,1),(1,1),(2,1),(3,1)]∧tik 7=none∧tst 7=false∧tbo 7=false∧teq 7=false:=⟨rfl,rfl,rfl,rfl,rfl,rfl,rfl,rfl,rfl,rfl⟩
@[go_sem] theorem ty_8:tsl 8=none∧tsz 8=some 4∧tby 8=some 24∧tag 8=some true∧tzr 8=some [.i .i64 0,.i .i64 0,.b false,.i .u8 0]∧tfs 8=[(0,1),(1,1),(2,1),(3,1)]∧tik 8=none∧tst 8=false∧tbo 8=false∧teq 8=false:=⟨rfl,rfl,rfl,rfl,rfl,rfl,rfl,rfl,rfl,rfl⟩
@[go_sem] theorem ty_9:tsl 9=none∧tsz 9=some 1∧tby 9=some 16∧tag 9=some false∧tzr 9=some [.t ⟨#[]⟩]∧tik 9=none∧tst 9=true∧tbo 9=false:=⟨rfl,rfl,rfl,rfl,rfl,rfl,rfl,rfl⟩
@[go_sem] theorem AJAz:tsl 10=none∧tsz 10=some 1∧tby 10=some 16∧tag 10=some false∧tzr 10=some [.t ⟨#[]⟩]∧tik 10=none∧tst 10=true∧tbo 10=false:=⟨rfl,rfl,rfl,rfl,rfl,rfl,rfl,rfl⟩
@[go_sem] theorem AI9z:tsl 11=none∧tsz 11=some 1∧tby 11=some 16∧tag 11=some false∧tzr 11=some [.t ⟨#[]⟩]∧tik 11=none∧tst 11=true∧tbo 11=false:=⟨rfl,rfl,rfl,rfl,rfl,rfl,rfl,rfl⟩
@[go_sem] theorem AI8z:tsl 12=none∧tsz 12=some 1∧tby 12=some 8∧tag 12=some false∧tzr 12=some [.i .u64 0]∧tik 12=some .u64∧tst 12=false∧tbo 12=false:=⟨rfl,rfl,rfl,rfl,rfl,rfl,rfl,rfl⟩
@[go_sem] theorem AI7z:tsl 13=none∧tsz 13=some 2∧tby 13=some 24∧tag 13=some true∧tzr 13=some [.t ⟨#[]⟩,.i .u64 0]∧tfs 13=[(0,1),(1,1)]∧tik 13=none∧tst 13=false∧tbo 13=false∧teq 13=false:=⟨rfl,rfl,rfl,rfl,rfl,rfl,rfl,rfl,rfl,rfl⟩
@[go_sem] theorem AI6z:tsl 14=none∧tsz 14=some 2∧tby 14=some 24∧tag 14=some true∧tzr 14=some [.t ⟨#[]⟩,.i .u64 0]∧tfs 14=[(0,1),(1,1)]∧tik 14=none∧tst 14=false∧tbo 14=false∧teq 14=false:=⟨rfl,rfl,rfl,rfl,rfl,rfl,rfl,rfl,rfl,rfl⟩
@[go_sem] theorem AI5z:tsl 21=none∧tsz 21=some 1∧tby 21=some 4∧tag 21=some false∧tzr 21=some [.i .i32 0]∧tik 21=some .i32∧tst 21=false∧tbo 21=false:=⟨rfl,rfl,rfl,rfl,rfl,rfl,rfl,rfl⟩
@[go_sem] theorem AI4z:tsl 22=some 137∧tsz 22=some 1∧tby 22=some 24∧tag 22=some false∧tzr 22=some [.s 6 []]∧tik 22=none∧tst 22=false∧tbo 22=false:=⟨rfl,rfl,rfl,rfl,rfl,rfl,rfl,rfl⟩
@[go_sem] theorem AI3z:tsl 23=none∧tsz 23=some 2∧tby 23=some 32∧tag 23=some true∧tzr 23=some [.s 6 [],.i .i64 0]∧tfs 23=[(0,1),(1,1)]∧tik 23=none∧tst 23=false∧tbo 23=false∧teq 23=false:=⟨rfl,rfl,rfl,rfl,rfl,rfl,rfl,rfl,rfl,rfl⟩
@[go_sem] theorem AI2z:tsl 24=none∧tsz 24=some 2∧tby 24=some 32∧tag 24=some true∧tzr 24=some [.s 6 [],.i .i64 0]∧tfs 24=[(0,1),(1,1)]∧tik 24=none∧tst 24=false∧tbo 24=false∧teq 24=false:=⟨rfl,rfl,rfl,rfl,rfl,rfl,rfl,rfl,rfl,rfl⟩
@[go_sem] theorem AI1z:tsl 26=some 149∧tsz 26=some 1∧tby 26=some 24∧tag 26=some false∧tzr 26=some [.s 2 []]∧tik 26=none∧tst 26=false∧tbo 26=false:=⟨rfl,rfl,rfl,rfl,rfl,rfl,rfl,rfl⟩
@[go_sem] theorem AI0z:tsl 27=some 9∧tsz 27=some 1∧tby 27=some 24∧tag 27=some false∧tzr 27=some [.s 1 []]∧tik 27=none∧tst 27=false∧tbo 27=false:=⟨rfl,rfl,rfl,rfl,rfl,rfl,rfl,rfl⟩
@[go_sem] theorem AIzz:tsl 28=some 79∧tsz 28=some 1∧tby 28=some 24∧tag 28=some false∧tzr 28=some [.s 5 []]∧tik 28=none∧tst 28=false∧tbo 28=false:=⟨rfl,rfl,rfl,rfl,rfl,rfl,rfl,rfl⟩
@[go_sem] theorem AIyz:tsl 29=none∧tsz 29=some 3∧tby 29=some 72∧tag 29=some true∧tzr 29=some [.s 2 [],.s 1 [],.s 5 []]∧tfs 29=[(0,1),(1,1),(2,1)]∧tik 29=none∧tst 29=false∧tbo 29=false∧teq 29=false:=⟨rfl,rfl,rfl,rfl,rfl,rfl,rfl,rfl,rfl,rfl⟩
@[go_sem] theorem AIxz:tsl 30=none∧tsz 30=some 3∧tby 30=some 72∧tag 30=some true∧tzr 30=some [.s 2 [],.s 1 [],.s 5 []]∧tfs 30=[(0,1),(1,1),(2,1)]∧tik 30=none∧tst 30=false∧tbo 30=false∧teq 30=false:=⟨rfl,rfl,rfl,rfl,rfl,rfl,rfl,rfl,rfl,rfl⟩
@[go_sem] theorem AIwz:tsl 32=some 84∧tsz 32=some 1∧tby 32=some 24∧tag 32=some false∧tzr 32=some [.s 6 []]∧tik 32=none∧tst 32=false∧tbo 32=false:=⟨rfl,rfl,rfl,rfl,rfl,rfl,rfl,rfl⟩
@[go_sem] theorem AIvz:tsl 33=none∧tsz 33=some 2∧tby 33=some 32∧tag 33=some true∧tzr 33=some [.s 6 [],.i .i64 0]∧tfs 33=[(0,1),(1,1)]∧tik 33=none∧tst 33=false∧tbo 33=false∧teq 33=false:=⟨rfl,rfl,rfl,rfl,rfl,rfl,rfl,rfl,rfl,rfl⟩
@[go_sem] theorem AIuz:tsl 34=none∧tsz 34=some 2∧tby 34=some 32∧tag 34=some true∧tzr 34=some [.s 6 [],.i .i64 0]∧tfs 34=[(0,1),(1,1)]∧tik 34=none∧tst 34=false∧tbo 34=false∧teq 34=false:=⟨rfl,rfl,rfl,rfl,rfl,rfl,rfl,rfl,rfl,rfl⟩
@[go_sem] theorem AItz:tsl 41=some 156∧tsz 41=some 1∧tby 41=some 24∧tag 41=some false∧tzr 41=some [.s 6 []]∧tik 41=none∧tst 41=false∧tbo 41=false:=⟨rfl,rfl,rfl,rfl,rfl,rfl,rfl,rfl⟩
@[go_sem] theorem AIsz:tsl 42=none∧tsz 42=some 2∧tby 42=some 32∧tag 42=some true∧tzr 42=some [.s 6 [],.i .i64 0]∧tfs 42=[(0,1),(1,1)]∧tik 42=none∧tst 42=false∧tbo 42=false∧teq 42=false:=⟨rfl,rfl,rfl,rfl,rfl,rfl,rfl,rfl,rfl,rfl⟩
@[go_sem] theorem AIrz:tsl 43=none∧tsz 43=some 2∧tby 43=some 32∧tag 43=some true∧tzr 43=some [.s 6 [],.i .i64 0]∧tfs 43=[(0,1),(1,1)]∧tik 43=none∧tst 43=false∧tbo 43=false∧teq 43=false:=⟨rfl,rfl,rfl,rfl,rfl,rfl,rfl,rfl,rfl,rfl⟩
@[go_sem] theorem AIqz:tsl 45=some 5∧tsz 45=some 1∧tby 45=some 24∧tag 45=some false∧tzr 45=some [.s 1 []]∧tik 45=none∧tst 45=false∧tbo 45=false:=⟨rfl,rfl,rfl,rfl,rfl,rfl,rfl,rfl⟩
@[go_sem] theorem AIpz:tsl 48=some 131∧tsz 48=some 1∧tby 48=some 24∧tag 48=some false∧tzr 48=some [.s 6 []]∧tik 48=none∧tst 48=false∧tbo 48=false:=⟨rfl,rfl,rfl,rfl,rfl,rfl,rfl,rfl⟩
@[go_sem] theorem AIoz:tsl 49=none∧tsz 49=some 2∧tby 49=some 32∧tag 49=some true∧tzr 49=some [.s 6 [],.i .i64 0]∧tfs 49=[(0,1),(1,1)]∧tik 49=none∧tst 49=false∧tbo 49=false∧teq 49=false:=⟨rfl,rfl,rfl,rfl,rfl,rfl,rfl,rfl,rfl,rfl⟩
@[go_sem] theorem AInz:tsl 50=none∧tsz 50=some 2∧tby 50=some 32∧tag 50=some true∧tzr 50=some [.s 6 [],.i .i64 0]∧tfs 50=[(0,1),(1,1)]∧tik 50=none∧tst 50=false∧tbo 50=false∧teq 50=false:=⟨rfl,rfl,rfl,rfl,rfl,rfl,rfl,rfl,rfl,rfl⟩
@[go_sem] theorem AImz:tsl 57=some 169∧tsz 57=some 1∧tby 57=some 24∧tag 57=some false∧tzr 57=some [.s 2 []]∧tik 57=none∧tst 57=false∧tbo 57=false:=⟨rfl,rfl,rfl,rfl,rfl,rfl,rfl,rfl⟩
@[go_sem] theorem AIlz:tsl 58=some 172∧tsz 58=some 1∧tby 58=some 24∧tag 58=some false∧tzr 58=some [.s 5 []]∧tik 58=none∧tst 58=false∧tbo 58=false:=⟨rfl,rfl,rfl,rfl,rfl,rfl,rfl,rfl⟩
@[go_sem] theorem AIkz:tsl 59=none∧tsz 59=some 3∧tby 59=some 72∧tag 59=some true∧tzr 59=some [.s 2 [],.s 1 [],.s 5 []]∧tfs 59=[(0,1),(1,1),(2,1)]∧tik 59=none∧tst 59=false∧tbo 59=false∧teq 59=false:=⟨rfl,rfl,rfl,rfl,rfl,rfl,rfl,rfl,rfl,rfl⟩
@[go_sem] theorem AIjz:tsl 60=none∧tsz 60=some 3∧tby 60=some 72∧tag 60=some true∧tzr 60=some [.s 2 [],.s 1 [],.s 5 []]∧tfs 60=[(0,1),(1,1),(2,1)]∧tik 60=none∧tst 60=false∧tbo 60=false∧teq 60=false:=⟨rfl,rfl,rfl,rfl,rfl,rfl,rfl,rfl,rfl,rfl⟩
@[go_sem] theorem AIiz:tsl 78=none∧tsz 78=some 5∧tby 78=some 88∧tag 78=some true∧tzr 78=some [.t ⟨#[]⟩,.i .i64 0,.s 1 [],.s 2 [],.t ⟨#[]⟩]∧tfs 78=[(0,1),(1,1),(2,1),(3,1),(4,1)]∧tik 78=none∧tst 78=false∧tbo 78=false∧teq 78=false:=⟨rfl,rfl,rfl,rfl,rfl,rfl,rfl,rfl,rfl,rfl⟩
@[go_sem] theorem AIhz:tsl 79=none∧tsz 79=some 5∧tby 79=some 88∧tag 79=some true∧tzr 79=some [.t ⟨#[]⟩,.i .i64 0,.s 1 [],.s 2 [],.t ⟨#[]⟩]∧tfs 79=[(0,1),(1,1),(2,1),(3,1),(4,1)]∧tik 79=none∧tst 79=false∧tbo 79=false∧teq 79=false:=⟨rfl,rfl,rfl,rfl,rfl,rfl,rfl,rfl,rfl,rfl⟩
@[go_sem] theorem AIgz:tsl 82=some 141∧tsz 82=some 1∧tby 82=some 24∧tag 82=some false∧tzr 82=some [.s 2 []]∧tik 82=none∧tst 82=false∧tbo 82=false:=⟨rfl,rfl,rfl,rfl,rfl,rfl,rfl,rfl⟩
@[go_sem] theorem AIfz:tsl 83=none∧tsz 83=some 6∧tby 83=some 96∧tag 83=some true∧tzr 83=some [.i .i64 0,.i .i64 0,.i .i64 0,.s 1 [],.s 2 [],.s 2 []]∧tfs 83=[(0,1),(1,1),(2,1),(3,1),(4,1),(5,1)]∧tik 83=none∧tst 83=false∧tbo 83=false∧teq 83=false:=⟨rfl,rfl,rfl,rfl,rfl,rfl,rfl,rfl,rfl,rfl⟩
@[go_sem] theorem AIez:tsl 84=none∧tsz 84=some 6∧tby 84=some 96∧tag 84=some true∧tzr 84=some [.i .i64 0,.i .i64 0,.i .i64 0,.s 1 [],.s 2 [],.s 2 []]∧tfs 84=[(0,1),(1,1),(2,1),(3,1),(4,1),(5,1)]∧tik 84=none∧tst 84=false∧tbo 84=false∧teq 84=false:=⟨rfl,rfl,rfl,rfl,rfl,rfl,rfl,rfl,rfl,rfl⟩
@[go_sem] theorem AFjz:tsl 117=none∧tsz 117=some 3∧tby 117=some 40∧tag 117=some true∧tzr 117=some [.s 6 [],.i .i64 0,.i .i64 0]∧tfs 117=[(0,2),(2,1)]∧tik 117=none∧tst 117=false∧tbo 117=false∧teq 117=false:=⟨rfl,rfl,rfl,rfl,rfl,rfl,rfl,rfl,rfl,rfl⟩
@[go_sem] theorem AFiz:tsl 118=none∧tsz 118=some 3∧tby 118=some 40∧tag 118=some true∧tzr 118=some [.s 6 [],.i .i64 0,.i .i64 0]∧tfs 118=[(0,2),(2,1)]∧tik 118=none∧tst 118=false∧tbo 118=false∧teq 118=false:=⟨rfl,rfl,rfl,rfl,rfl,rfl,rfl,rfl,rfl,rfl⟩
@[go_sem] theorem AFhz:tsl 130=none∧tsz 130=some 6∧tby 130=some 72∧tag 130=some true∧tzr 130=some [.i .i64 0,.t ⟨#[]⟩,.b false,.i .i64 0,.s 6 [],.i .i64 0]∧tfs 130=[(0,1),(1,1),(2,1),(3,1),(4,2)]∧tik 130=none∧tst 130=false∧tbo 130=false∧teq 130=false:=⟨rfl,rfl,rfl,rfl,rfl,rfl,rfl,rfl,rfl,rfl⟩
@[go_sem] theorem AFgz:tsl 131=none∧tsz 131=some 6∧tby 131=some 72∧tag 131=some true∧tzr 131=some [.i .i64 0,.t ⟨#[]⟩,.b false,.i .i64 0,.s 6 [],.i .i64 0]∧tfs 131=[(0,1),(1,1),(2,1),(3,1),(4,2)]∧tik 131=none∧tst 131=false∧tbo 131=false∧teq 131=false:=⟨rfl,rfl,rfl,rfl,rfl,rfl,rfl,rfl,rfl,rfl⟩
@[go_sem] theorem AFfz:tsl 135=some 240∧tsz 135=some 1∧tby 135=some 24∧tag 135=some false∧tzr 135=some [.s 2 []]∧tik 135=none∧tst 135=false∧tbo 135=false:=⟨rfl,rfl,rfl,rfl,rfl,rfl,rfl,rfl⟩
@[go_sem] theorem AFez:tsl 136=none∧tsz 136=some 6∧tby 136=some 96∧tag 136=some true∧tzr 136=some [.i .i64 0,.i .i64 0,.i .i64 0,.s 1 [],.s 2 [],.s 2 []]∧tfs 136=[(0,1),(1,1),(2,1),(3,1),(4,1),(5,1)]∧tik 136=none∧tst 136=false∧tbo 136=false∧teq 136=false:=⟨rfl,rfl,rfl,rfl,rfl,rfl,rfl,rfl,rfl,rfl⟩
@[go_sem] theorem AFdz:tsl 137=none∧tsz 137=some 6∧tby 137=some 96∧tag 137=some true∧tzr 137=some [.i .i64 0,.i .i64 0,.i .i64 0,.s 1 [],.s 2 [],.s 2 []]∧tfs 137=[(0,1),(1,1),(2,1),(3,1),(4,1),(5,1)]∧tik 137=none∧tst 137=false∧tbo 137=false∧teq 137=false:=⟨rfl,rfl,rfl,rfl,rfl,rfl,rfl,rfl,rfl,rfl⟩
@[go_sem] theorem AFcz:tsl 138=some 3∧tsz 138=some 1∧tby 138=some 24∧tag 138=some false∧tzr 138=some [.s 1 []]∧tik 138=none∧tst 138=false∧tbo 138=false:=⟨rfl,rfl,rfl,rfl,rfl,rfl,rfl,rfl⟩
@[go_sem] theorem AFbz:tsl 140=none∧tsz 140=some 2∧tby 140=some 24∧tag 140=some true∧tzr 140=some [.t ⟨#[]⟩,.i .i64 0]∧tfs 140=[(0,1),(1,1)]∧tik 140=none∧tst 140=false∧tbo 140=false∧teq 140=false:=⟨rfl,rfl,rfl,rfl,rfl,rfl,rfl,rfl,rfl,rfl⟩
@[go_sem] theorem AFaz:tsl 141=none∧tsz 141=some 2∧tby 141=some 24∧tag 141=some true∧tzr 141=some [.t ⟨#[]⟩,.i .i64 0]∧tfs 141=[(0,1),(1,1)]∧tik 141=none∧tst 141=false∧tbo 141=false∧teq 141=true:=⟨rfl,rfl,rfl,rfl,rfl,rfl,rfl,rfl,rfl,rfl⟩
@[go_sem] theorem AFZz:tsl 148=none∧tsz 148=some 2∧tby 148=some 32∧tag 148=some true∧tzr 148=some [.t ⟨#[]⟩,.t ⟨#[]⟩]∧tfs 148=[(0,1),(1,1)]∧tik 148=none∧tst 148=false∧tbo 148=false∧teq 148=false:=⟨rfl,rfl,rfl,rfl,rfl,rfl,rfl,rfl,rfl,rfl⟩
@[go_sem] theorem AFYz:tsl 149=none∧tsz 149=some 2∧tby 149=some 32∧tag 149=some true∧tzr 149=some [.t ⟨#[]⟩,.t ⟨#[]⟩]∧tfs 149=[(0,1),(1,1)]∧tik 149=none∧tst 149=false∧tbo 149=false∧teq 149=true:=⟨rfl,rfl,rfl,rfl,rfl,rfl,rfl,rfl,rfl,rfl⟩
@[go_sem] theorem AFXz:tsl 155=none∧tsz 155=some 6∧tby 155=some 72∧tag 155=some true∧tzr 155=some [.i .i64 0,.t ⟨#[]⟩,.b false,.i .i64 0,.s 6 [],.i .i64 0]∧tfs 155=[(0,1),(1,1),(2,1),(3,1),(4,2)]∧tik 155=none∧tst 155=false∧tbo 155=false∧teq 155=false:=⟨rfl,rfl,rfl,rfl,rfl,rfl,rfl,rfl,rfl,rfl⟩
@[go_sem] theorem AFWz:tsl 156=none∧tsz 156=some 6∧tby 156=some 72∧tag 156=some true∧tzr 156=some [.i .i64 0,.t ⟨#[]⟩,.b false,.i .i64 0,.s 6 [],.i .i64 0]∧tfs 156=[(0,1),(1,1),(2,1),(3,1),(4,2)]∧tik 156=none∧tst 156=false∧tbo 156=false∧teq 156=false:=⟨rfl,rfl,rfl,rfl,rfl,rfl,rfl,rfl,rfl,rfl⟩
@[go_sem] theorem AFVz:tsl 164=none∧tsz 164=some 1∧tby 164=some 8∧tag 164=some false∧tzr 164=some [.i .u64 0]∧tik 164=some .u64∧tst 164=false∧tbo 164=false:=⟨rfl,rfl,rfl,rfl,rfl,rfl,rfl,rfl⟩
@[go_sem] theorem AFUz:tsl 169=none∧tsz 169=some 2∧tby 169=some 32∧tag 169=some true∧tzr 169=some [.t ⟨#[]⟩,.t ⟨#[]⟩]∧tfs 169=[(0,1),(1,1)]∧tik 169=none∧tst 169=false∧tbo 169=false∧teq 169=true:=⟨rfl,rfl,rfl,rfl,rfl,rfl,rfl,rfl,rfl,rfl⟩
@[go_sem] theorem AFTz:tsl 171=none∧tsz 171=some 5∧tby 171=some 88∧tag 171=some true∧tzr 171=some [.t ⟨#[]⟩,.i .i64 0,.s 1 [],.s 2 [],.t ⟨#[]⟩]∧tfs 171=[(0,1),(1,1),(2,1),(3,1),(4,1)]∧tik 171=none∧tst 171=false∧tbo 171=false∧teq 171=false:=⟨rfl,rfl,rfl,rfl,rfl,rfl,rfl,rfl,rfl,rfl⟩
@[go_sem] theorem AFSz:tsl 172=none∧tsz 172=some 5∧tby 172=some 88∧tag 172=some true∧tzr 172=some [.t ⟨#[]⟩,.i .i64 0,.s 1 [],.s 2 [],.t ⟨#[]⟩]∧tfs 172=[(0,1),(1,1),(2,1),(3,1),(4,1)]∧tik 172=none∧tst 172=false∧tbo 172=false∧teq 172=false:=⟨rfl,rfl,rfl,rfl,rfl,rfl,rfl,rfl,rfl,rfl⟩
@[go_sem] theorem AFRz:tsl 185=none∧tsz 185=some 3∧tby 185=some 40∧tag 185=some true∧tzr 185=some [.s 1 [],.i .i64 0,.b false]∧tfs 185=[(0,1),(1,1),(2,1)]∧tik 185=none∧tst 185=false∧tbo 185=false∧teq 185=false:=⟨rfl,rfl,rfl,rfl,rfl,rfl,rfl,rfl,rfl,rfl⟩
@[go_sem] theorem AFQz:tsl 186=none∧tsz 186=some 3∧tby 186=some 40∧tag 186=some true∧tzr 186=some [.s 1 [],.i .i64 0,.b false]∧tfs 186=[(0,1),(1,1),(2,1)]∧tik 186=none∧tst 186=false∧tbo 186=false∧teq 186=false:=⟨rfl,rfl,rfl,rfl,rfl,rfl,rfl,rfl,rfl,rfl⟩
@[go_sem] theorem AFPz:tsl 194=none∧tsz 194=some 3∧tby 194=some 40∧tag 194=some true∧tzr 194=some [.s 1 [],.i .i64 0,.b false]∧tfs 194=[(0,1),(1,1),(2,1)]∧tik 194=none∧tst 194=false∧tbo 194=false∧teq 194=false:=⟨rfl,rfl,rfl,rfl,rfl,rfl,rfl,rfl,rfl,rfl⟩
@[go_sem] theorem AFOz:tsl 195=none∧tsz 195=some 3∧tby 195=some 40∧tag 195=some true∧tzr 195=some [.s 1 [],.i .i64 0,.b false]∧tfs 195=[(0,1),(1,1),(2,1)]∧tik 195=none∧tst 195=false∧tbo 195=false∧teq 195=false:=⟨rfl,rfl,rfl,rfl,rfl,rfl,rfl,rfl,rfl,rfl⟩
@[go_sem] theorem AFNz:tsl 227=none∧tsz 227=some 7∧tby 227=some 112∧tag 227=some true∧tzr 227=some [.i .i64 0,.i .i64 0,.i .i64 0,.s 1 [],.s 2 [],.s 2 [],.t ⟨#[]⟩]∧tfs 227=[(0,6),(6,1)]∧tik 227=none∧tst 227=false∧tbo 227=false∧teq 227=false:=⟨rfl,rfl,rfl,rfl,rfl,rfl,rfl,rfl,rfl,rfl⟩
@[go_sem] theorem AFMz:tsl 228=none∧tsz 228=some 7∧tby 228=some 112∧tag 228=some true∧tzr 228=some [.i .i64 0,.i .i64 0,.i .i64 0,.s 1 [],.s 2 [],.s 2 [],.t ⟨#[]⟩]∧tfs 228=[(0,6),(6,1)]∧tik 228=none∧tst 228=false∧tbo 228=false∧teq 228=false:=⟨rfl,rfl,rfl,rfl,rfl,rfl,rfl,rfl,rfl,rfl⟩
@[go_sem] theorem AFLz:tsl 240=none∧tsz 240=some 2∧tby 240=some 24∧tag 240=some true∧tzr 240=some [.t ⟨#[]⟩,.i .i64 0]∧tfs 240=[(0,1),(1,1)]∧tik 240=none∧tst 240=false∧tbo 240=false∧teq 240=true:=⟨rfl,rfl,rfl,rfl,rfl,rfl,rfl,rfl,rfl,rfl⟩
@[go_sem] theorem AFKz:tsl 252=none∧tsz 252=some 1∧tby 252=some 4∧tag 252=some false∧tzr 252=some [.i .u32 0]∧tik 252=some .u32∧tst 252=false∧tbo 252=false:=⟨rfl,rfl,rfl,rfl,rfl,rfl,rfl,rfl⟩
@[go_sem] theorem AFJz:tsl 262=none∧tsz 262=some 1∧tby 262=some 8∧tag 262=some false∧tzr 262=some [.i .i64 0]∧tik 262=some .i64∧tst 262=false∧tbo 262=false:=⟨rfl,rfl,rfl,rfl,rfl,rfl,rfl,rfl⟩
@[go_sem] theorem AFIz:tsl 272=none∧tsz 272=some 1∧tby 272=some 8∧tag 272=some false∧tzr 272=some [.i .u64 0]∧tik 272=some .u64∧tst 272=false∧tbo 272=false:=⟨rfl,rfl,rfl,rfl,rfl,rfl,rfl,rfl⟩
@[go_sem] theorem AFHz:tsl 283=none∧tsz 283=some 1∧tby 283=some 8∧tag 283=some false∧tzr 283=some [.i .u64 0]∧tik 283=some .u64∧tst 283=false∧tbo 283=false:=⟨rfl,rfl,rfl,rfl,rfl,rfl,rfl,rfl⟩
@[go_sem] theorem AFGz:tsl 316=none∧tsz 316=some 2∧tby 316=some 2∧tag 316=some true∧tzr 316=some [.i .u8 0,.i .u8 0]∧tfs 316=[(0,1),(1,1)]∧tik 316=none∧tst 316=false∧tbo 316=false∧teq 316=false:=⟨rfl,rfl,rfl,rfl,rfl,rfl,rfl,rfl,rfl,rfl⟩
@[go_sem] theorem AFFz:tsl 317=none∧tsz 317=some 2∧tby 317=some 2∧tag 317=some true∧tzr 317=some [.i .u8 0,.i .u8 0]∧tfs 317=[(0,1),(1,1)]∧tik 317=none∧tst 317=false∧tbo 317=false∧teq 317=false:=⟨rfl,rfl,rfl,rfl,rfl,rfl,rfl,rfl,rfl,rfl⟩
@[go_sem] theorem AFEz:tsl 329=none∧tsz 329=some 1∧tby 329=some 1∧tag 329=some false∧tzr 329=some [.i .u8 0]∧tik 329=some .u8∧tst 329=false∧tbo 329=false:=⟨rfl,rfl,rfl,rfl,rfl,rfl,rfl,rfl⟩
@[go_sem] theorem AFDz:tsl 330=none∧tsz 330=some 1∧tby 330=some 1∧tag 330=some false∧tzr 330=some [.i .u8 0]∧tik 330=some .u8∧tst 330=false∧tbo 330=false:=⟨rfl,rfl,rfl,rfl,rfl,rfl,rfl,rfl⟩
@[go_sem] theorem AFCz:tsl 332=none∧tsz 332=some 1∧tby 332=some 4∧tag 332=some false∧tzr 332=some [.i .i32 0]∧tik 332=some .i32∧tst 332=false∧tbo 332=false:=⟨rfl,rfl,rfl,rfl,rfl,rfl,rfl,rfl⟩
@[go_sem] theorem AFBz:tsl 333=none∧tsz 333=some 1∧tby 333=some 4∧tag 333=some false∧tzr 333=some [.i .i32 0]∧tik 333=some .i32∧tst 333=false∧tbo 333=false:=⟨rfl,rfl,rfl,rfl,rfl,rfl,rfl,rfl⟩
@[go_sem] theorem AH8z:dead 9 7=[0,1,9,10,11,12,13,14,15,16,17,18,19,20,21,22,23,24,25,26,27,28,29,30,31,32,33,34,35,36,37,38,39,40,41,42,43,44,45,46,47,48,49,50,51,52,53,54,55,56,57,58,59,60,61,62,63,64,65,66,67,68,69,70,71,72,73,74,75,76,77,78,79,80,81,82,83,84,85,86,87,88,89,90,91,92,93,94,95,96,97,98,99,100,101,102,103,104,105,106,107,108,109,110,111,112,113,114,115,116,117,118,119]∧dead 9 13=[0,1,8,9,11,12,13,14,15,16,17,18,19,20,21,22,23,24,25,26,27,28,29,30,31,32,33,34,35,36,37,38,39,40,41,42,43,44,45,46,47,48,49,50,51,52,53,54,55,56,57,58,59,60,61,62,63,64,65,66,67,68,69,70,71,72,73,74,75,76,77,78,79,80,81,82,83,84,85,86,87,88,89,90,91,92,93,94,95,96,97,98,99,100,101,102,103,104,105,106,107,108,109,110,111,112,113,114,115,116,117,118,119]:=⟨rfl,rfl⟩
@[go_sem] theorem AEMz:dead 11 8=[0,1,2,3,6,7,10,11,12,13,14,15,16,17,18,19,20,21,22,23,24,25,26,27,28,29,30,31,32,33,34,35,36,37,38,39,43,44,45,46,47,48,49,50,51,52,53,54,55,56,57,58,59,60,61,62,63,64,65,66,67,68,69,70,71,72,73,74,75,76,77,78,79,80,81,82,83,84,85,86,87,88,89,90,91,92,93,94,95,96,97,98,99,100,101,102,103,104,105,106,107,108]∧dead 11 15=[0,1,2,3,6,7,10,11,12,13,14,15,16,17,18,19,20,21,22,23,24,25,26,27,28,29,30,31,32,33,34,35,36,37,38,39,40,41,42,43,44,45,46,47,48,49,50,51,52,53,54,55,56,57,58,59,60,61,62,63,64,65,66,67,68,69,70,71,72,73,74,75,76,77,78,79,83,84,85,86,87,88,89,90,91,92,93,94,95,96,97,98,99,100,101,102,103,104,105,106,107,108]:=⟨rfl,rfl⟩
@[go_sem] theorem AELz:dead 21 4=[2,3,4,6,7,8,9,10,11,12,13,14,15,16,17,18,19,20,21,22,23,24,25]:=rfl
@[go_sem] theorem AEKz:dead 24 2=[2,3,4,6,7,8,9,10,11,12,13,14,15,16,17,18,19]:=rfl
@[go_sem] theorem AEJz:dead 25 2=[2,3,4,6,7,8,9,10,11,12,13,14,15,16,17,18,19,20,21]:=rfl
@[go_sem] theorem AEIz:dead 32 3=[1,2,5,6,7,8,9,10,11,12,13,14,15,16,17,18,19,20,21]:=rfl
@[go_sem] theorem AEHz:dead 37 5=[2,3,4,6,7,8,9,10,11,12,13,14,15,16,17,18,19,20,21,22,23,24,25,26]:=rfl
@[go_sem] theorem AEGz:dead 38 4=[0,2,4,5,6,7,8,9,10,11,12,13,14,15,16,17,18,19,20,21,22,23,24,25,26,27,28,29,30,31,32,33,34,35,36,37,38,39,40,41,42,43,44,45,46,47,48,49,50,51,52]∧dead 38 10=[0,2,6,7,8,9,10,11,12,13,14,15,16,17,18,19,20,21,22,23,24,25,26,27,28,29,30,31,32,33,34,35,36,37,38,39,40,41,42,43,44,45,46,47,48,49,50,51,52]:=⟨rfl,rfl⟩
@[go_sem] theorem AEFz:dead 40 4=[0,2,6,7,8,9,10,11,12,13,14,15,16,17,18,19,20,21,22,23,24,25,26,27,28,29,30,31,32,33,34,35,36,37,38,39,40,41,42,43,44,45]:=rfl
@[go_sem] theorem AEEz:dead 41 2=[2,3,4,6,7,8,9,10,11,12,13,14,15,16,17,18,19]:=rfl
@[go_sem] theorem AEDz:dead 43 3=[1,2,5,6,7,8,9,10,11,12,13,14,15,16,17,18,19,20,21,22]:=rfl
@[go_sem] theorem AECz:dead 44 4=[0,2,3,4,5,6,7,8,9,10,11,12,13,14,15,16,17,18,19,23,24,25,26,27,28,29,30,31,32,33,34,35,36,37,38,39,40,41,42,43,44,45,46]∧dead 44 9=[0,2,3,5,6,7,8,9,10,11,12,13,14,15,16,17,18,19,23,24,25,26,27,28,29,30,31,32,33,37,38,39,40,41,42,43,44,45,46]:=⟨rfl,rfl⟩
@[go_sem] theorem AEBz:dead 46 3=[0,2,4,5,6,7,8,9,10,11,12,13,14,18,19,20,21,22,23,24,25,26,27,28,29,30,31,32,33,34,35,36,37,38,39,40,41,42,43,44,45,46,47,48,49,50,51,52,53,54,55,56,57,58,59,60,61]∧dead 46 8=[0,2,4,7,9,10,11,12,13,14,18,19,20,21,22,23,24,25,26,27,31,32,33,34,35,36,37,38,39,40,41,42,43,44,45,46,47,48,49,50,51,52,53,54,55,56,57,58,59,60,61]:=⟨rfl,rfl⟩
@[go_sem] theorem AEAz:dead 47 2=[0,2,3,5,6,7,11,12,13,14,15,16,17,18,19,20]:=rfl
@[go_sem] theorem AD9z:dead 49 4=[2,3,4,6,7,8,9,10,11,12,13,14,15,16,17,18,19,20,21,22,23,24,25,26]:=rfl
@[go_sem] theorem AD8z:dead 52 4=[2,3,4,6,7,8,9,10,11,12,13,14,15,16,17,18,19,20,21,22,23,24,25,26]:=rfl
@[go_sem] theorem AD7z:dead 53 2=[2,3,4,6,7,8,9,10,11,12,13,14,15,16,17,18,19,20,21,22,23,24,25,26,27,28,29,30,31,32,33,34,35,36,37,38,39,40,41,42,43,44,45,46,47,48,49,50,51,52,53,54]:=rfl
@[go_sem] theorem AD6z:dead 54 2=[2,3,4,6,7,8,9,10,11,12,13,14,15,16,17,18,19,20,21,22,23,24,25,26,27,28]:=rfl
@[go_sem] theorem AD5z:dead 60 5=[2,3,4,6,7,8,9,10,11,12,13,14,15,16,17,18,19,20,21,22,23,24,25,26]:=rfl
@[go_sem] theorem AD4z:dead 61 4=[0,2,4,5,6,7,8,9,10,11,12,13,14,15,16,17,18,19,20,21,22,23,24,25,26,27,28,29,30,31,32,33,34,35,36,37,38,39,40,41,42,43,44,45,46,47,48,49,50,51,52,53,54,55,56,57,58,59,60,61,62,63,64,65,66,67,68,69,70,71,72,73,74,75,76,77,78,79,80,81,82,83,84,85,86]:=rfl
@[go_sem] theorem AD3z:dead 62 2=[0,3,4,6,7,8,9,10,11,12,13,14,15,16,17,18,19,20,21]:=rfl
@[go_sem] theorem AD2z:dead 64 5=[0,2,5,7,8,9,10,11,12,13,14,15,16,17,18,19,20,21,22,23,24,25,26,27,28,29,30,31,32,33,34,35,36,37,38,39,40,41,42,43,44,45,46,47,48,49,50,51,52,53,54,55,56,57,58,59,60,61,62,63,64,65,66,67,68,69,70,71,72,73,74,75,76,77,78,79,80,81,82,83,84,85,86,87,88,89,90]∧dead 64 10=[0,2,4,6,7,8,9,10,11,12,13,14,15,16,17,18,19,20,21,22,23,24,25,26,27,28,29,30,31,32,33,34,35,36,37,38,39,40,41,42,43,44,45,46,47,48,49,50,51,52,53,54,55,56,57,58,59,60,61,62,63,64,65,66,67,68,69,70,71,72,73,74,75,76,77,78,79,80,81,82,83,84,85,86,87,88,89,90]:=⟨rfl,rfl⟩
@[go_sem] theorem AD1z:dead 65 3=[1,2,5,6,7,8,9,10,11,12,13,14,15,16,17,18,19,20,21,22]:=rfl
@[go_sem] theorem AD0z:dead 66 4=[0,2,3,4,5,6,7,8,9,10,11,12,13,14,15,19,20,21,22,23,24,25,26,27,28,29,30,31,32,33,34,35,36,37,38,39,40,41,42,43,44,45,46,47,48,49,50,51,52,53,54,55,56,57,58,59,60,61,62,63,64,65,66,67,68,69,70,71,72,73,74,75,76,77,78,79,80,81,82,83]:=rfl
@[go_sem] theorem ADzz:dead 68 6=[0,2,4,5,6,8,9,10,11,12,13,14,15,16,17,18,19,20,24,25,26,27,28,29,30,31,32,33,34,35,36,37,38,39,40,41,42,43,44,45,46,47,48,49,50,51,52,53,54,55,56,57,58,59,60,61,62,63,64,65,66,67]∧dead 68 12=[0,2,4,5,6,7,8,9,10,11,12,13,14,15,16,17,18,19,20,21,22,23,24,25,26,27,28,29,30,31,32,33,34,35,36,40,41,42,43,44,45,46,47,48,49,50,51,52,53,54,55,56,57,58,59,60,61,62,63,64,65,66,67]:=⟨rfl,rfl⟩
@[go_sem] theorem ADyz:dead 69 4=[2,3,4,6,7,8,9,10,11,12,13,14,15,16,17,18,19,20,21,22,23,24,25,26]:=rfl
@[go_sem] theorem ADxz:dead 70 2=[2,3,4,6,7,8,9,10,11,12,13,14,15,16,17,18,19,20,21,22,23,24,25,26,27,28,29,30,31,32,33,34,35,36,37,38,39,40,41,42,43,44,45,46,47,48,49,50,51,52,53,54,55,56,57,58,59]:=rfl
@[go_sem] theorem ADwz:dead 71 5=[2,3,4,6,7,8,9,10,11,12,13,14,15,16,17,18,19,20,21,22,23,24,25,26]:=rfl
@[go_sem] theorem ADvz:dead 74 4=[0,2,4,5,6,7,9,10,11,12,13,14,15,16,17,18,19,20,21,22,23,24,25,26,27,28,29,30,31,32,33,34,35,36,37,38,39,40,41,42,43,44,45,46,47,48,49,50,51,52,53,54,55,56,57,58,59,60,61,62,63,64,65,66,67,68,69,70,71,72,73,74,75,76,77,78,79,80,81,82,83,84,85,86,87,88,89,90,91,92,93,94,95,96,97,98,99,100,101,102,103,104,105,106]∧dead 74 10=[0,2,3,4,5,6,8,9,10,11,12,13,14,15,16,17,18,19,20,21,22,23,24,25,26,27,28,29,30,31,32,33,34,35,36,37,38,39,40,41,42,43,44,45,46,47,48,49,50,51,52,53,54,55,56,57,58,59,60,61,62,63,64,65,66,67,68,69,70,71,72,73,74,75,76,77,78,79,80,81,82,83,84,85,86,87,88,89,90,91,92,93,94,95,96,97,98,99,100,101,102,103,104,105,106]:=⟨rfl,rfl⟩
@[go_sem] theorem ADuz:dead 79 3=[1,2,5,6,7,8,9,10,11,12,13,14,15,16,17,18,19,20,21,22]:=rfl
@[go_sem] theorem ADtz:dead 83 2=[0,2,3,4,5,7,11,12,13,14,15,16,17,18,19,20,21,22,23,24,25,26,27,28,29,30,31,32,33,34,35,36,37,38,39,40,41,42,43,44,45,46,47,48,49,50,51,52,53,54,55,56,57,58,59,60,61,62,63]∧dead 83 8=[0,2,3,4,5,6,7,8,9,10,11,12,13,14,15,16,17,18,19,20,21,22,23,24,25,26,27,28,29,30,31,32,33,37,38,39,40,41,42,43,44,45,46,47,48,49,50,51,52,53,54,55,56,57,58,59,60,61,62,63]:=⟨rfl,rfl⟩
@[go_sem] theorem ADsz:dead 94 2=[1,2,4,5,6,7,8,9,10,11,12,13,14,15,16,17,18,19,20,21,22,23,24,25,26,27,28,29,30,31,32,33,34,35,36,37,38,39,40,41,42,43,44,45]:=rfl
@[go_sem] theorem ADrz:dead 97 3=[0,2,5,6,7,8,9,10,11,12,13,14,15,16,17,18,19,20,21,22,23,24,25,26,27,28,29,30,31,32,33,34,35,36,37,38,39,40,41,42,43,44,45,46,47,48,49]∧dead 97 8=[0,2,7,8,9,10,11,12,13,14,15,16,17,18,19,20,21,22,23,24,25,26,27,28,29,30,31,32,33,34,35,36,37,38,39,40,41,42,43,44,45,46,47,48,49]:=⟨rfl,rfl⟩
@[go_sem] theorem ACGz:dead 100 2=[1,2,3,4,5,8,9,10,11,12,13,14,15,16,17,18,19,20,21,22,23,24,25,26,27,28,29,30,31,32,33,34,35,36,37,38,39,40,41,42,43,44,45,46,47,48,49,50,51,52,53,54,55]:=rfl
@[go_sem] theorem ACFz:dead 102 3=[0,2,4,5,6,7,8,12,13,14,15,16,17,18,19,20,21,22,23,24,25,26,27,28,29,30,31,32,33,34,35,36,37,38,39]∧dead 102 7=[0,2,4,6,7,8,12,13,14,15,16,17,18,19,20,21,25,26,27,28,29,30,31,32,33,34,35,36,37,38,39]:=⟨rfl,rfl⟩
@[go_sem] theorem ACEz:dead 105 4=[0,2,4,5,6,7,8,9,10,11,12,13,14,15,16,17,18,19,20,21,22,23,24,25,26,27,28,29,30,31,32,33,34,35,36,37,38,39,40,41,42,43,44,45,46,47,48,49,50,51,52,53,54,55,56,57,58,59,60,61,62,63,64,65,66,67]:=rfl
@[go_sem] theorem ACDz:dead 106 6=[0,2,5,6,7,8,9,10,11,12,13,14,15,16,17,18,19,20,21,22,23]:=rfl
@[go_sem] theorem ACCz:dead 107 3=[0,3,4,7,8,9,10,11,12,13,14,15,16,17,18,19,20,21,22,23,24,25,26,27,28,29,30,31,32,33,34,35,36,37,38,39,40,41,42,43,44,45,46,47,48,49]∧dead 107 6=[0,3,4,8,9,10,11,12,13,14,15,16,17,18,19,20,21,22,23,24,25,26,27,28,29,30,31,32,33,34,35,36,37,38,39,40,41,42,43,44,45,46,47,48,49]:=⟨rfl,rfl⟩
@[go_sem] theorem ACBz:dead 108 2=[0,3,4,6,7,8,9,10,11,12,13,14,15,16,17,18,19,20,21]:=rfl
@[go_sem] theorem ACAz:dead 112 2=[0,4,5,6,8,9,10,11,12,13,14,15,16,17,18,19,20,21,22,23,24,25,26,27,28,29,30,31]:=rfl
@[go_sem] theorem AB9z:dead 113 4=[2,3,4,6,7,8,9,10,11,12,13,14,15,16,17,18,19,20,21,22,23,24,25]:=rfl
@[go_sem] theorem AB8z:dead 114 4=[2,3,4,6,7,8,9,10,11,12,13,14,15,16,17,18,19,20,21,22,23,24,25]:=rfl
@[go_sem] theorem AB7z:dead 116 4=[0,2,3,4,6,7,8,9,10,11,12,13,14,15,16,17,21,22,23,24,25,26,27,28,29,30,31,32,33,34,35,36,37,38,39,40,41,42,43,44,45,46,47,48,49,50,51,52,53,54,55,56,57,58,59,60,61,62]:=rfl
@[go_sem] theorem AB6z:dead 117 3=[0,2,5,6,7,8,9,10,11,12,13,14,15,16,17,18,19,20,21,22,23,24,25,26,27,28,29,30,31,32,33,34,35,36,37,38,39,40,41,42,43,44,45,46,47,48,49,50,51,52,53,54,55]∧dead 117 11=[0,2,5,7,8,9,10,11,12,13,14,15,16,17,18,19,20,21,22,23,24,25,26,27,28,29,30,31,32,33,34,35,36,37,38,39,40,44,45,46,47,48,49,50,51,52,53,54,55]:=⟨rfl,rfl⟩
@[go_sem] theorem AB5z:dead 118 3=[0,3,4,6,7,8,9,10,14,15,16,17,18,19,20,21,22,23,24,25,26,27,28,29,30,31,32,33,34,35]∧dead 118 7=[0,3,4,6,8,9,10,14,15,16,17,18,19,20,24,25,26,27,28,29,30,31,32,33,34,35]:=⟨rfl,rfl⟩
@[go_sem] theorem AB4z:dead 122 6=[0,1,3,4,5,6,7,9,10,11,12,13,14,15,16,17,18,19,23,24,25,26,27,28,29,30,31,32,33,34,35,36,37,38,39,40,41,42,43,44,45]:=rfl
@[go_sem] theorem AB3z:dead 123 4=[2,3,4,5,6,7,8,9,10,11,14,15,16,17,18,19,20,21,22,23,24,25]:=rfl
@[go_sem] theorem AB2z:dead 124 4=[2,3,4,5,6,7,8,9,10,11,14,15,16,17,18,19,20,21,22,23,24,25]:=rfl
@[go_sem] theorem AB1z:dead 128 2=[2,3,4,6,7,8,9,10,11,12,13,14,15,16,17,18,19,20,21,22,23,24,25,26,27]:=rfl
@[go_sem] theorem AB0z:dead 129 4=[1,2,4,5,6,7,8,9,10,11,12,13,14,15,16,17,18,19]:=rfl
@[go_sem] theorem ABzz:dead 132 2=[0,3,4,6,7,8,9,10,11,12,13,14,15,16,17,18,19,20,21]:=rfl
@[go_sem] theorem AByz:dead 134 6=[0,2,3,4,6,7,8,9,10,11,12,13,14,15,16,17,18,19,20,21,22,23,24,25,26,27,28]:=rfl
@[go_sem] theorem ABxz:dead 135 3=[2,3,4,6,7,8,9,10,11,12,13,14,15,16,17,18,19,20,21,22,23,24,25,26,27,28,29]:=rfl
@[go_sem] theorem ABwz:dead 137 3=[1,2,5,6,7,8,9,10,11,12,13,14,15,16,17,18,19,20,21,22,23,24,25,26,27,28,29,30,31,32,33]∧dead 137 7=[1,2,6,7,8,9,10,11,12,13,14,15,16,17,18,19,20,21,22,23,24,25,26,27,28,29,30,31,32,33]:=⟨rfl,rfl⟩
@[go_sem] theorem ABvz:dead 144 3=[1,2,3,4,5,6,7,8,9,10,14,15,16,17,18,19,20,21,22,23,24,25]:=rfl
@[go_sem] theorem ABuz:dead 145 3=[0,2,3,4,6,7,8,9,10,11,12,13,14,15,16,17,18,19,20,21,22,23,24,25,26]:=rfl
@[go_sem] theorem ABtz:dead 151 2=[1,2,4,5,6,7,8,9,10,11,12,13,14,15,16,17,18,19,20,21,22,23,24,25,26,27,28,29,30,31,32,33,34,35,36,37,38,39,40,41,42,43,44,45,46,47]:=rfl
@[go_sem] theorem ABsz:dead 166 2=[1,2,3,4,8,9,10,11,12,13,14,15,16,17,18,19,20,21,22,23,24,25,26,27,28,29,30,31,32,33,34,35,36,37,38,39,40,41]:=rfl
@[go_sem] theorem ABrz:dead 167 2=[1,2,4,5,6,7,8,9,10,11,12,13,14,15,16,17,18,19,20,21,22,23,24]:=rfl
@[go_sem] theorem ABqz:dead 188 5=[2,3,4,6,7,8,9,10,11,12,13,14,15,16,17,18,19,20,21,22,23,24,25,26]:=rfl
@[go_sem] theorem ABpz:dead 190 3=[0,3,4,7,8,9,10,11,12,13,14,15,16,17,18,19,20,21,22,23,24,25,26,27,28,29,30,31,32,33,34,35,36,37,38,39,40,41,42,43,44,45,46,47,48,49,50,51,52,53,54,55,56,57,58]∧dead 190 7=[0,3,4,10,11,12,13,14,15,16,17,18,19,20,21,22,23,24,25,26,27,28,29,30,31,32,33,34,35,36,37,38,39,40,41,42,43,44,45,46,47,48,49,50,51,52,53,54,55,56,57,58]:=⟨rfl,rfl⟩
@[go_sem] theorem ABoz:dead 191 3=[0,1,5,6,7,9,11,12,13,14,15,16,17,18,19,20,21,22,23,24,25,26,27,28,29,30,31,32,33,34,35,36,37,38,39,40,41,42,43,44,45,46,47,48,49,50,51]:=rfl
@[go_sem] theorem ABnz:dead 192 3=[0,1,2,5,6,7,8,9,10,11,12,13,14,15,16,17,18,19,20,21,22,23,24,25,26,27,28,29,30,31,32,33,34,35,36,37,38,39,40,41,42,43,44,45,46]∧dead 192 7=[0,1,2,7,8,9,10,11,12,13,14,15,16,17,18,19,20,21,22,23,24,25,26,27,28,29,30,31,32,33,34,35,36,37,38,39,40,41,42,43,44,45,46]:=⟨rfl,rfl⟩
@[go_sem] theorem ABmz:dead 194 3=[1,2,5,6,7,8,9,10,11,12,13,14,15,16,17,18,19,20,21,22]:=rfl
@[go_sem] theorem ABlz:dead 195 4=[0,2,3,4,5,6,7,8,9,10,11,12,13,14,15,16,17,18,19,20,21,22,23,24,25,26,27,31,32,33,34,35,36,37,38,39,40,41,42,43,44,45,46,47,48,49,50,51,52,53,54,55,56,57,58,59,60,61,62,63,64,65,66,67,68,69,70,71,72,73,74,75,76,77,78,79,80,81,82,83,84,85,86,87,88,89,90,91,92,93]:=rfl
@[go_sem] theorem ABkz:dead 198 2=[2,3,4,5,6,9,10,11,12,13,14,15,16,17,18]:=rfl
@[go_sem] theorem ABjz:dead 203 3=[0,1,5,6,8,9,10,11,12,13,14,18,19,20,21,22,23,24,25,26,27,28,29,30,31,32,33,34,35,36,37,38,39,40,41,42,43,44]:=rfl
@[go_sem] theorem ABiz:dead 206 2=[0,3,4,5,6,7,11,12,13,14,15,16,17,18,19,20]:=rfl
@[go_sem] theorem ABhz:dead 207 4=[2,3,4,6,7,8,9,10,11,12,13,14,15,16,17,18,19,20,21,22,23,24,25,26]:=rfl
@[go_sem] theorem ABgz:dead 208 2=[2,3,4,5,6,9,10,11,12,13,14,15,16,17,18]:=rfl
@[go_sem] theorem ABfz:dead 211 3=[0,1,2,4,5,6,10,11,12,13,14,15,16,17,18,19,20,21,22,23,24,25,26,27,28,29,30,31]∧dead 211 7=[0,1,2,4,5,6,10,11,12,13,14,15,16,18,19,20,21,22,23,24,25,26,27,28,29,30,31]:=⟨rfl,rfl⟩
@[go_sem] theorem ABez:dead 212 6=[1,2,3,7,8,9,10,11,12,13,14,15,16,17,18,19,20,21,22,23,24,25,26,27,28,29,30,31,32,33,34,35,36,37,38,39,40,41,42,43,44,45,46,47,48,49,50,51,52,53,54,55,56,57,58]:=rfl
@[go_sem] theorem ABdz:dead 213 5=[1,2,5,6,7,8,9,10,11,12,13,14,15,16,17,18,19,20,21,22,23,24,25,26,27,28,29,30,31,32]:=rfl
@[go_sem] theorem ABcz:dead 239 2=[1,2,4,5,6,7,8,9,10,11,12,13,14,15,16,17,18,19,20,21,22,23,24,25,26,27,28,29,30,31,32,33,34,35,36,37,38,39,40,41,42,43,44,45,46]:=rfl
@[go_sem] theorem ABbz:dead 240 5=[0,2,3,4,7,8,9,10,11,12,13,14,15,16,17,18,19,20,21,22,23,24,25,26,27,28,29,30,31,32,33,34,35,36,37,38,39,40,41,42,43,44,45]:=rfl
@[go_sem] theorem ABaz:dead 241 3=[0,3,4,5,8,9,10,11,12,13,14,15,16,17,18,19,20,21,22,23,24,25,26,27,28,29,30,31,32,33,34,35,36,37,38,39]:=rfl
@[go_sem] theorem ABZz:dead 243 2=[2,3,4,5,6,9,10,11,12,13,14,15,16,17,18]:=rfl
@[go_sem] theorem ABYz:dead 251 2=[0,3,4,6,7,8,9,10,11,12,13,14,15,16,17,18,19,20,21,22,23,24,25,26]:=rfl
@[go_sem] theorem ABXz:dead 264 2=[2,3,4,6,7,8,9,10,11,12,13,14,15,16,17]:=rfl
@[go_sem] theorem ABWz:dead 285 11=[4,5,6,7,8,11,12,13,14,15,16,17,18,19,20,21,22,23,24,25,26,27,28,29,30,31,32,33,34,35,36,37,38,39,40,41,42,43,44,45,46,47,48,49,50,51,52,53,54,55,56,57,58,59,60,61,62,63,64,65]:=rfl
@[go_sem] theorem ABVz:dead 304 6=[2,3,4,5,8,9,10,11,12,13,14,15,16,17,18,19,20,21,22,23,24,25,26,27,28,29,30,31,32,33,34,35,36,37,38,39,40,41,42,43,44,45,46,47,48,49]:=rfl
@[go_sem] theorem ABUz:dead 305 6=[2,3,4,6,7,8,9,10,11,12,13,14,15,16,17,18,19,20,21,22,23,24,25,26,27,28,29,30,31,32,33]:=rfl
@[go_sem] theorem ABTz:dead 307 2=[2,3,4,5,6,9,10,11,12,13,14,15,16,17,18]:=rfl
@[go_sem] theorem ABSz:dead 314 2=[0,1,3,5,6,7,8,9]:=rfl
@[go_sem] theorem ABRz:dead 317 15=[2,3,4,11,12,13,14,15,16,17,18,19,20,21,22,23,24,25,26,27,28,29,30,31,32,33,34,35,36,37,38,39,40,41,42,43,44,45,46,47,48,49,50,51,52,53,54,55,56,57,58,59,60,61,62,63,64,65,66,67,68,69,70,71,72,73,74,75,76,77,78,79,80,81,82,83,84,85,86,87,88,89,90,91,92,93,94,95,96,97,98,99,100,101,102,103,104,105,106,107,108,109,110,111,112,113,114,115,116,117,118,119,120,121,122,123,124,125,126,127,128,129,130,131,132,133,134,135,136,137,138,139,140,141,142]:=rfl
@[go_sem] theorem ABQz:dead 327 5=[2,3,4,10,11,12,13,14,15,16,17,18,19,20,21,22,23,24,25,26,27,28,29,30,31,32,33,34,35,36,37,38,39,40,41,42,43,44,45,46,47,48,49,50,51,52,53,54,55,56,57,58,59,60,61,62,63,64,65,66,67,68,69,70,71,72,73,74,75,76,77,78,79,80]∧dead 327 11=[2,3,4,9,11,12,13,14,15,16,17,18,19,20,21,22,23,24,25,26,27,28,29,30,31,32,33,34,35,36,37,38,39,40,41,42,43,44,45,46,47,48,49,50,51,52,53,54,55,56,57,58,59,60,61,62,63,64,65,66,67,68,69,70,71,72,73,74,75,76,77,78,79,80]:=⟨rfl,rfl⟩
def sos:FuncId→Option (Nat→St→List SV→Option (St×SV))
 |204=>some (sortTextOrc)
 |197=>some (sortIntOrc)
 |_=>none
def tys:Tys:=⟨tsl,tsz,tby,tag,tzr,tfo,tfz,tik,tst,tbo,teq,sos,false,false⟩
@[go_sem] theorem AE2z {t}:tys.so t=sos t:=rfl
@[go_sem] theorem AAdz:tik 0=none:=rfl
@[go_sem] theorem AAcz:tst 0=false:=rfl
@[go_sem] theorem AAez:tbo 0=false:=rfl
attribute [go_sem] tfo tfz
@[go_sem] theorem AE3z {t}:tys.sl t=tsl t:=rfl
@[go_sem] theorem AE0z {t}:tys.sz t=tsz t:=rfl
@[go_sem] theorem AE8z {t}:tys.byt t=tby t:=rfl
@[go_sem] theorem AFAz {t}:tys.ag t=tag t:=rfl
@[go_sem] theorem AEzz {t}:tys.zr t=tzr t:=rfl
@[go_sem] theorem AE6z {t f}:tys.fo t f=tfo t f:=rfl
@[go_sem] theorem AE5z {t f}:tys.fz t f=tfz t f:=rfl
@[go_sem] theorem AE4z {t}:tys.ik t=tik t:=rfl
@[go_sem] theorem AE1z {t}:tys.str t=tst t:=rfl
@[go_sem] theorem AE9z {t}:tys.boo t=tbo t:=rfl
@[go_sem] theorem AE7z {t}:tys.eqs t=teq t:=rfl
def orcs:FuncId→Option (CallF→List SV→List (List CV)→Option Ret)
 |316=>some (I6z fun s c=>Lib.countByte s.data.toList c.toNat.toUInt8)
 |330=>some (I6z fun s c=>Lib.indexByte s.data.toList c.toNat.toUInt8)
 |200=>some (Brz 1 1 true)
 |201=>some (Brz 2 24 true)
 |202=>some (Brz 2 32 true)
 |_=>none
def inls:FuncId→Bool
 |23=>true
 |24=>true
 |47=>true
 |53=>true
 |54=>true
 |70=>true
 |128=>true
 |_=>false
def mvs:FuncId→Bool
 |10=>true
 |11=>true
 |19=>true
 |23=>true
 |24=>true
 |32=>true
 |43=>true
 |46=>true
 |47=>true
 |53=>true
 |54=>true
 |65=>true
 |70=>true
 |79=>true
 |115=>true
 |128=>true
 |138=>true
 |162=>true
 |194=>true
 |242=>true
 |_=>false
def als:FuncId→Bool
 |67=>true
 |_=>false
@[go_sem] theorem fm_4:sos 4=none∧inls 4=false∧mvs 4=false∧als 4=false:=⟨rfl,rfl,rfl,rfl⟩
@[go_sem] theorem fm_8:sos 8=none∧inls 8=false∧mvs 8=false∧als 8=false:=⟨rfl,rfl,rfl,rfl⟩
@[go_sem] theorem fm_9:sos 9=none∧inls 9=false∧mvs 9=false∧als 9=false:=⟨rfl,rfl,rfl,rfl⟩
@[go_sem] theorem AJ9z:sos 10=none∧inls 10=false∧mvs 10=true∧als 10=false:=⟨rfl,rfl,rfl,rfl⟩
@[go_sem] theorem AJ8z:sos 11=none∧inls 11=false∧mvs 11=true∧als 11=false:=⟨rfl,rfl,rfl,rfl⟩
@[go_sem] theorem AJ7z:sos 13=none∧inls 13=false∧mvs 13=false∧als 13=false:=⟨rfl,rfl,rfl,rfl⟩
@[go_sem] theorem AJ6z:sos 17=none∧inls 17=false∧mvs 17=false∧als 17=false:=⟨rfl,rfl,rfl,rfl⟩
@[go_sem] theorem AJ5z:sos 18=none∧inls 18=false∧mvs 18=false∧als 18=false:=⟨rfl,rfl,rfl,rfl⟩
@[go_sem] theorem AJ4z:sos 19=none∧inls 19=false∧mvs 19=true∧als 19=false:=⟨rfl,rfl,rfl,rfl⟩
@[go_sem] theorem AJ3z:sos 20=none∧inls 20=false∧mvs 20=false∧als 20=false:=⟨rfl,rfl,rfl,rfl⟩
@[go_sem] theorem AJ2z:sos 21=none∧inls 21=false∧mvs 21=false∧als 21=false:=⟨rfl,rfl,rfl,rfl⟩
@[go_sem] theorem AJ1z:sos 22=none∧inls 22=false∧mvs 22=false∧als 22=false:=⟨rfl,rfl,rfl,rfl⟩
@[go_sem] theorem AJ0z:sos 23=none∧inls 23=true∧mvs 23=true∧als 23=false:=⟨rfl,rfl,rfl,rfl⟩
@[go_sem] theorem AJzz:sos 24=none∧inls 24=true∧mvs 24=true∧als 24=false:=⟨rfl,rfl,rfl,rfl⟩
@[go_sem] theorem AJyz:sos 25=none∧inls 25=false∧mvs 25=false∧als 25=false:=⟨rfl,rfl,rfl,rfl⟩
@[go_sem] theorem AJxz:sos 32=none∧inls 32=false∧mvs 32=true∧als 32=false:=⟨rfl,rfl,rfl,rfl⟩
@[go_sem] theorem AJwz:sos 37=none∧inls 37=false∧mvs 37=false∧als 37=false:=⟨rfl,rfl,rfl,rfl⟩
@[go_sem] theorem AJvz:sos 38=none∧inls 38=false∧mvs 38=false∧als 38=false:=⟨rfl,rfl,rfl,rfl⟩
@[go_sem] theorem AJuz:sos 39=none∧inls 39=false∧mvs 39=false∧als 39=false:=⟨rfl,rfl,rfl,rfl⟩
@[go_sem] theorem AJtz:sos 40=none∧inls 40=false∧mvs 40=false∧als 40=false:=⟨rfl,rfl,rfl,rfl⟩
@[go_sem] theorem AJsz:sos 41=none∧inls 41=false∧mvs 41=false∧als 41=false:=⟨rfl,rfl,rfl,rfl⟩
@[go_sem] theorem AJrz:sos 42=none∧inls 42=false∧mvs 42=false∧als 42=false:=⟨rfl,rfl,rfl,rfl⟩
@[go_sem] theorem AJqz:sos 43=none∧inls 43=false∧mvs 43=true∧als 43=false:=⟨rfl,rfl,rfl,rfl⟩
@[go_sem] theorem AJpz:sos 44=none∧inls 44=false∧mvs 44=false∧als 44=false:=⟨rfl,rfl,rfl,rfl⟩
@[go_sem] theorem AJoz:sos 45=none∧inls 45=false∧mvs 45=false∧als 45=false:=⟨rfl,rfl,rfl,rfl⟩
@[go_sem] theorem AJnz:sos 46=none∧inls 46=false∧mvs 46=true∧als 46=false:=⟨rfl,rfl,rfl,rfl⟩
@[go_sem] theorem AJmz:sos 47=none∧inls 47=true∧mvs 47=true∧als 47=false:=⟨rfl,rfl,rfl,rfl⟩
@[go_sem] theorem AJlz:sos 48=none∧inls 48=false∧mvs 48=false∧als 48=false:=⟨rfl,rfl,rfl,rfl⟩
@[go_sem] theorem AJkz:sos 49=none∧inls 49=false∧mvs 49=false∧als 49=false:=⟨rfl,rfl,rfl,rfl⟩
@[go_sem] theorem AJjz:sos 52=none∧inls 52=false∧mvs 52=false∧als 52=false:=⟨rfl,rfl,rfl,rfl⟩
@[go_sem] theorem AJiz:sos 53=none∧inls 53=true∧mvs 53=true∧als 53=false:=⟨rfl,rfl,rfl,rfl⟩
@[go_sem] theorem AJhz:sos 54=none∧inls 54=true∧mvs 54=true∧als 54=false:=⟨rfl,rfl,rfl,rfl⟩
@[go_sem] theorem AJgz:sos 60=none∧inls 60=false∧mvs 60=false∧als 60=false:=⟨rfl,rfl,rfl,rfl⟩
@[go_sem] theorem AJfz:sos 61=none∧inls 61=false∧mvs 61=false∧als 61=false:=⟨rfl,rfl,rfl,rfl⟩
@[go_sem] theorem AJez:sos 62=none∧inls 62=false∧mvs 62=false∧als 62=false:=⟨rfl,rfl,rfl,rfl⟩
@[go_sem] theorem AJdz:sos 63=none∧inls 63=false∧mvs 63=false∧als 63=false:=⟨rfl,rfl,rfl,rfl⟩
@[go_sem] theorem AJcz:sos 64=none∧inls 64=false∧mvs 64=false∧als 64=false:=⟨rfl,rfl,rfl,rfl⟩
@[go_sem] theorem AJbz:sos 65=none∧inls 65=false∧mvs 65=true∧als 65=false:=⟨rfl,rfl,rfl,rfl⟩
@[go_sem] theorem AJaz:sos 66=none∧inls 66=false∧mvs 66=false∧als 66=false:=⟨rfl,rfl,rfl,rfl⟩
@[go_sem] theorem AJZz:sos 67=none∧inls 67=false∧mvs 67=false∧als 67=true:=⟨rfl,rfl,rfl,rfl⟩
@[go_sem] theorem AJYz:sos 68=none∧inls 68=false∧mvs 68=false∧als 68=false:=⟨rfl,rfl,rfl,rfl⟩
@[go_sem] theorem AJXz:sos 69=none∧inls 69=false∧mvs 69=false∧als 69=false:=⟨rfl,rfl,rfl,rfl⟩
@[go_sem] theorem AJWz:sos 70=none∧inls 70=true∧mvs 70=true∧als 70=false:=⟨rfl,rfl,rfl,rfl⟩
@[go_sem] theorem AJVz:sos 71=none∧inls 71=false∧mvs 71=false∧als 71=false:=⟨rfl,rfl,rfl,rfl⟩
@[go_sem] theorem AJUz:sos 74=none∧inls 74=false∧mvs 74=false∧als 74=false:=⟨rfl,rfl,rfl,rfl⟩
@[go_sem] theorem AJTz:sos 79=none∧inls 79=false∧mvs 79=true∧als 79=false:=⟨rfl,rfl,rfl,rfl⟩
@[go_sem] theorem AJSz:sos 83=none∧inls 83=false∧mvs 83=false∧als 83=false:=⟨rfl,rfl,rfl,rfl⟩
@[go_sem] theorem AJRz:sos 87=none∧inls 87=false∧mvs 87=false∧als 87=false:=⟨rfl,rfl,rfl,rfl⟩
@[go_sem] theorem AJQz:sos 94=none∧inls 94=false∧mvs 94=false∧als 94=false:=⟨rfl,rfl,rfl,rfl⟩
@[go_sem] theorem AJPz:sos 97=none∧inls 97=false∧mvs 97=false∧als 97=false:=⟨rfl,rfl,rfl,rfl⟩
@[go_sem] theorem AHzz:sos 100=none∧inls 100=false∧mvs 100=false∧als 100=false:=⟨rfl,rfl,rfl,rfl⟩
@[go_sem] theorem AHyz:sos 102=none∧inls 102=false∧mvs 102=false∧als 102=false:=⟨rfl,rfl,rfl,rfl⟩
@[go_sem] theorem AHxz:sos 104=none∧inls 104=false∧mvs 104=false∧als 104=false:=⟨rfl,rfl,rfl,rfl⟩
@[go_sem] theorem AHwz:sos 105=none∧inls 105=false∧mvs 105=false∧als 105=false:=⟨rfl,rfl,rfl,rfl⟩
@[go_sem] theorem AHvz:sos 106=none∧inls 106=false∧mvs 106=false∧als 106=false:=⟨rfl,rfl,rfl,rfl⟩
@[go_sem] theorem AHuz:sos 107=none∧inls 107=false∧mvs 107=false∧als 107=false:=⟨rfl,rfl,rfl,rfl⟩
@[go_sem] theorem AHtz:sos 108=none∧inls 108=false∧mvs 108=false∧als 108=false:=⟨rfl,rfl,rfl,rfl⟩
@[go_sem] theorem AHsz:sos 109=none∧inls 109=false∧mvs 109=false∧als 109=false:=⟨rfl,rfl,rfl,rfl⟩
@[go_sem] theorem AHrz:sos 110=none∧inls 110=false∧mvs 110=false∧als 110=false:=⟨rfl,rfl,rfl,rfl⟩
@[go_sem] theorem AHqz:sos 111=none∧inls 111=false∧mvs 111=false∧als 111=false:=⟨rfl,rfl,rfl,rfl⟩
@[go_sem] theorem AHpz:sos 112=none∧inls 112=false∧mvs 112=false∧als 112=false:=⟨rfl,rfl,rfl,rfl⟩
@[go_sem] theorem AHoz:sos 113=none∧inls 113=false∧mvs 113=false∧als 113=false:=⟨rfl,rfl,rfl,rfl⟩
@[go_sem] theorem AHnz:sos 114=none∧inls 114=false∧mvs 114=false∧als 114=false:=⟨rfl,rfl,rfl,rfl⟩
@[go_sem] theorem AHmz:sos 115=none∧inls 115=false∧mvs 115=true∧als 115=false:=⟨rfl,rfl,rfl,rfl⟩
@[go_sem] theorem AHlz:sos 116=none∧inls 116=false∧mvs 116=false∧als 116=false:=⟨rfl,rfl,rfl,rfl⟩
@[go_sem] theorem AHkz:sos 117=none∧inls 117=false∧mvs 117=false∧als 117=false:=⟨rfl,rfl,rfl,rfl⟩
@[go_sem] theorem AHjz:sos 118=none∧inls 118=false∧mvs 118=false∧als 118=false:=⟨rfl,rfl,rfl,rfl⟩
@[go_sem] theorem AHiz:sos 119=none∧inls 119=false∧mvs 119=false∧als 119=false:=⟨rfl,rfl,rfl,rfl⟩
@[go_sem] theorem AHhz:sos 120=none∧inls 120=false∧mvs 120=false∧als 120=false:=⟨rfl,rfl,rfl,rfl⟩
@[go_sem] theorem AHgz:sos 121=none∧inls 121=false∧mvs 121=false∧als 121=false:=⟨rfl,rfl,rfl,rfl⟩
@[go_sem] theorem AHfz:sos 122=none∧inls 122=false∧mvs 122=false∧als 122=false:=⟨rfl,rfl,rfl,rfl⟩
@[go_sem] theorem AHez:sos 123=none∧inls 123=false∧mvs 123=false∧als 123=false:=⟨rfl,rfl,rfl,rfl⟩
@[go_sem] theorem AHdz:sos 124=none∧inls 124=false∧mvs 124=false∧als 124=false:=⟨rfl,rfl,rfl,rfl⟩
@[go_sem] theorem AHcz:sos 125=none∧inls 125=false∧mvs 125=false∧als 125=false:=⟨rfl,rfl,rfl,rfl⟩
@[go_sem] theorem AHbz:sos 127=none∧inls 127=false∧mvs 127=false∧als 127=false:=⟨rfl,rfl,rfl,rfl⟩
@[go_sem] theorem AHaz:sos 128=none∧inls 128=true∧mvs 128=true∧als 128=false:=⟨rfl,rfl,rfl,rfl⟩
@[go_sem] theorem AHZz:sos 129=none∧inls 129=false∧mvs 129=false∧als 129=false:=⟨rfl,rfl,rfl,rfl⟩
@[go_sem] theorem AHYz:sos 130=none∧inls 130=false∧mvs 130=false∧als 130=false:=⟨rfl,rfl,rfl,rfl⟩
@[go_sem] theorem AHXz:sos 131=none∧inls 131=false∧mvs 131=false∧als 131=false:=⟨rfl,rfl,rfl,rfl⟩
@[go_sem] theorem AHWz:sos 132=none∧inls 132=false∧mvs 132=false∧als 132=false:=⟨rfl,rfl,rfl,rfl⟩
@[go_sem] theorem AHVz:sos 133=none∧inls 133=false∧mvs 133=false∧als 133=false:=⟨rfl,rfl,rfl,rfl⟩
@[go_sem] theorem AHUz:sos 134=none∧inls 134=false∧mvs 134=false∧als 134=false:=⟨rfl,rfl,rfl,rfl⟩
@[go_sem] theorem AHTz:sos 135=none∧inls 135=false∧mvs 135=false∧als 135=false:=⟨rfl,rfl,rfl,rfl⟩
@[go_sem] theorem AHSz:sos 136=none∧inls 136=false∧mvs 136=false∧als 136=false:=⟨rfl,rfl,rfl,rfl⟩
@[go_sem] theorem AHRz:sos 137=none∧inls 137=false∧mvs 137=false∧als 137=false:=⟨rfl,rfl,rfl,rfl⟩
@[go_sem] theorem AHQz:sos 138=none∧inls 138=false∧mvs 138=true∧als 138=false:=⟨rfl,rfl,rfl,rfl⟩
@[go_sem] theorem AHPz:sos 139=none∧inls 139=false∧mvs 139=false∧als 139=false:=⟨rfl,rfl,rfl,rfl⟩
@[go_sem] theorem AHOz:sos 140=none∧inls 140=false∧mvs 140=false∧als 140=false:=⟨rfl,rfl,rfl,rfl⟩
@[go_sem] theorem AHNz:sos 141=none∧inls 141=false∧mvs 141=false∧als 141=false:=⟨rfl,rfl,rfl,rfl⟩
@[go_sem] theorem AHMz:sos 142=none∧inls 142=false∧mvs 142=false∧als 142=false:=⟨rfl,rfl,rfl,rfl⟩
@[go_sem] theorem AHLz:sos 143=none∧inls 143=false∧mvs 143=false∧als 143=false:=⟨rfl,rfl,rfl,rfl⟩
@[go_sem] theorem AHKz:sos 144=none∧inls 144=false∧mvs 144=false∧als 144=false:=⟨rfl,rfl,rfl,rfl⟩
@[go_sem] theorem AHJz:sos 145=none∧inls 145=false∧mvs 145=false∧als 145=false:=⟨rfl,rfl,rfl,rfl⟩
@[go_sem] theorem AHIz:sos 146=none∧inls 146=false∧mvs 146=false∧als 146=false:=⟨rfl,rfl,rfl,rfl⟩
@[go_sem] theorem AHHz:sos 147=none∧inls 147=false∧mvs 147=false∧als 147=false:=⟨rfl,rfl,rfl,rfl⟩
@[go_sem] theorem AHGz:sos 148=none∧inls 148=false∧mvs 148=false∧als 148=false:=⟨rfl,rfl,rfl,rfl⟩
@[go_sem] theorem AHFz:sos 149=none∧inls 149=false∧mvs 149=false∧als 149=false:=⟨rfl,rfl,rfl,rfl⟩
@[go_sem] theorem AHEz:sos 151=none∧inls 151=false∧mvs 151=false∧als 151=false:=⟨rfl,rfl,rfl,rfl⟩
@[go_sem] theorem AHDz:sos 152=none∧inls 152=false∧mvs 152=false∧als 152=false:=⟨rfl,rfl,rfl,rfl⟩
@[go_sem] theorem AHCz:sos 153=none∧inls 153=false∧mvs 153=false∧als 153=false:=⟨rfl,rfl,rfl,rfl⟩
@[go_sem] theorem AHBz:sos 154=none∧inls 154=false∧mvs 154=false∧als 154=false:=⟨rfl,rfl,rfl,rfl⟩
@[go_sem] theorem AHAz:sos 162=none∧inls 162=false∧mvs 162=true∧als 162=false:=⟨rfl,rfl,rfl,rfl⟩
@[go_sem] theorem AG9z:sos 164=none∧inls 164=false∧mvs 164=false∧als 164=false:=⟨rfl,rfl,rfl,rfl⟩
@[go_sem] theorem AG8z:sos 165=none∧inls 165=false∧mvs 165=false∧als 165=false:=⟨rfl,rfl,rfl,rfl⟩
@[go_sem] theorem AG7z:sos 166=none∧inls 166=false∧mvs 166=false∧als 166=false:=⟨rfl,rfl,rfl,rfl⟩
@[go_sem] theorem AG6z:sos 167=none∧inls 167=false∧mvs 167=false∧als 167=false:=⟨rfl,rfl,rfl,rfl⟩
@[go_sem] theorem AG5z:sos 187=none∧inls 187=false∧mvs 187=false∧als 187=false:=⟨rfl,rfl,rfl,rfl⟩
@[go_sem] theorem AG4z:sos 188=none∧inls 188=false∧mvs 188=false∧als 188=false:=⟨rfl,rfl,rfl,rfl⟩
@[go_sem] theorem AG3z:sos 189=none∧inls 189=false∧mvs 189=false∧als 189=false:=⟨rfl,rfl,rfl,rfl⟩
@[go_sem] theorem AG2z:sos 190=none∧inls 190=false∧mvs 190=false∧als 190=false:=⟨rfl,rfl,rfl,rfl⟩
@[go_sem] theorem AG1z:sos 191=none∧inls 191=false∧mvs 191=false∧als 191=false:=⟨rfl,rfl,rfl,rfl⟩
@[go_sem] theorem AG0z:sos 192=none∧inls 192=false∧mvs 192=false∧als 192=false:=⟨rfl,rfl,rfl,rfl⟩
@[go_sem] theorem AGzz:sos 193=none∧inls 193=false∧mvs 193=false∧als 193=false:=⟨rfl,rfl,rfl,rfl⟩
@[go_sem] theorem AGyz:sos 194=none∧inls 194=false∧mvs 194=true∧als 194=false:=⟨rfl,rfl,rfl,rfl⟩
@[go_sem] theorem AGxz:sos 195=none∧inls 195=false∧mvs 195=false∧als 195=false:=⟨rfl,rfl,rfl,rfl⟩
@[go_sem] theorem AGwz:sos 196=none∧inls 196=false∧mvs 196=false∧als 196=false:=⟨rfl,rfl,rfl,rfl⟩
@[go_sem] theorem AGvz:sos 197=some (sortIntOrc)∧inls 197=false∧mvs 197=false∧als 197=false:=⟨rfl,rfl,rfl,rfl⟩
@[go_sem] theorem AGuz:sos 198=none∧inls 198=false∧mvs 198=false∧als 198=false:=⟨rfl,rfl,rfl,rfl⟩
@[go_sem] theorem AGtz:sos 199=none∧inls 199=false∧mvs 199=false∧als 199=false:=⟨rfl,rfl,rfl,rfl⟩
@[go_sem] theorem AGsz:sos 200=none∧inls 200=false∧mvs 200=false∧als 200=false:=⟨rfl,rfl,rfl,rfl⟩
@[go_sem] theorem AGrz:sos 201=none∧inls 201=false∧mvs 201=false∧als 201=false:=⟨rfl,rfl,rfl,rfl⟩
@[go_sem] theorem AGqz:sos 202=none∧inls 202=false∧mvs 202=false∧als 202=false:=⟨rfl,rfl,rfl,rfl⟩
@[go_sem] theorem AGpz:sos 203=none∧inls 203=false∧mvs 203=false∧als 203=false:=⟨rfl,rfl,rfl,rfl⟩
@[go_sem] theorem AGoz:sos 204=some (sortTextOrc)∧inls 204=false∧mvs 204=false∧als 204=false:=⟨rfl,rfl,rfl,rfl⟩
@[go_sem] theorem AGnz:sos 205=none∧inls 205=false∧mvs 205=false∧als 205=false:=⟨rfl,rfl,rfl,rfl⟩
@[go_sem] theorem AGmz:sos 206=none∧inls 206=false∧mvs 206=false∧als 206=false:=⟨rfl,rfl,rfl,rfl⟩
@[go_sem] theorem AGlz:sos 207=none∧inls 207=false∧mvs 207=false∧als 207=false:=⟨rfl,rfl,rfl,rfl⟩
@[go_sem] theorem AGkz:sos 208=none∧inls 208=false∧mvs 208=false∧als 208=false:=⟨rfl,rfl,rfl,rfl⟩
@[go_sem] theorem AGjz:sos 209=none∧inls 209=false∧mvs 209=false∧als 209=false:=⟨rfl,rfl,rfl,rfl⟩
@[go_sem] theorem AGiz:sos 210=none∧inls 210=false∧mvs 210=false∧als 210=false:=⟨rfl,rfl,rfl,rfl⟩
@[go_sem] theorem AGhz:sos 211=none∧inls 211=false∧mvs 211=false∧als 211=false:=⟨rfl,rfl,rfl,rfl⟩
@[go_sem] theorem AGgz:sos 212=none∧inls 212=false∧mvs 212=false∧als 212=false:=⟨rfl,rfl,rfl,rfl⟩
@[go_sem] theorem AGfz:sos 213=none∧inls 213=false∧mvs 213=false∧als 213=false:=⟨rfl,rfl,rfl,rfl⟩
@[go_sem] theorem AGez:sos 238=none∧inls 238=false∧mvs 238=false∧als 238=false:=⟨rfl,rfl,rfl,rfl⟩
@[go_sem] theorem AGdz:sos 239=none∧inls 239=false∧mvs 239=false∧als 239=false:=⟨rfl,rfl,rfl,rfl⟩
@[go_sem] theorem AGcz:sos 240=none∧inls 240=false∧mvs 240=false∧als 240=false:=⟨rfl,rfl,rfl,rfl⟩
@[go_sem] theorem AGbz:sos 241=none∧inls 241=false∧mvs 241=false∧als 241=false:=⟨rfl,rfl,rfl,rfl⟩
@[go_sem] theorem AGaz:sos 242=none∧inls 242=false∧mvs 242=true∧als 242=false:=⟨rfl,rfl,rfl,rfl⟩
@[go_sem] theorem AGZz:sos 243=none∧inls 243=false∧mvs 243=false∧als 243=false:=⟨rfl,rfl,rfl,rfl⟩
@[go_sem] theorem AGYz:sos 247=none∧inls 247=false∧mvs 247=false∧als 247=false:=⟨rfl,rfl,rfl,rfl⟩
@[go_sem] theorem AGXz:sos 248=none∧inls 248=false∧mvs 248=false∧als 248=false:=⟨rfl,rfl,rfl,rfl⟩
@[go_sem] theorem AGWz:sos 249=none∧inls 249=false∧mvs 249=false∧als 249=false:=⟨rfl,rfl,rfl,rfl⟩
@[go_sem] theorem AGVz:sos 251=none∧inls 251=false∧mvs 251=false∧als 251=false:=⟨rfl,rfl,rfl,rfl⟩
@[go_sem] theorem AGUz:sos 264=none∧inls 264=false∧mvs 264=false∧als 264=false:=⟨rfl,rfl,rfl,rfl⟩
@[go_sem] theorem AGTz:sos 285=none∧inls 285=false∧mvs 285=false∧als 285=false:=⟨rfl,rfl,rfl,rfl⟩
@[go_sem] theorem AGSz:sos 286=none∧inls 286=false∧mvs 286=false∧als 286=false:=⟨rfl,rfl,rfl,rfl⟩
@[go_sem] theorem AGRz:sos 287=none∧inls 287=false∧mvs 287=false∧als 287=false:=⟨rfl,rfl,rfl,rfl⟩
@[go_sem] theorem AGQz:sos 304=none∧inls 304=false∧mvs 304=false∧als 304=false:=⟨rfl,rfl,rfl,rfl⟩
@[go_sem] theorem AGPz:sos 305=none∧inls 305=false∧mvs 305=false∧als 305=false:=⟨rfl,rfl,rfl,rfl⟩
@[go_sem] theorem AGOz:sos 306=none∧inls 306=false∧mvs 306=false∧als 306=false:=⟨rfl,rfl,rfl,rfl⟩
@[go_sem] theorem AGNz:sos 307=none∧inls 307=false∧mvs 307=false∧als 307=false:=⟨rfl,rfl,rfl,rfl⟩
@[go_sem] theorem AGMz:sos 314=none∧inls 314=false∧mvs 314=false∧als 314=false:=⟨rfl,rfl,rfl,rfl⟩
@[go_sem] theorem AGLz:sos 315=none∧inls 315=false∧mvs 315=false∧als 315=false:=⟨rfl,rfl,rfl,rfl⟩
@[go_sem] theorem AGKz:sos 316=none∧inls 316=false∧mvs 316=false∧als 316=false:=⟨rfl,rfl,rfl,rfl⟩
@[go_sem] theorem AGJz:sos 317=none∧inls 317=false∧mvs 317=false∧als 317=false:=⟨rfl,rfl,rfl,rfl⟩
@[go_sem] theorem AGIz:sos 323=none∧inls 323=false∧mvs 323=false∧als 323=false:=⟨rfl,rfl,rfl,rfl⟩
@[go_sem] theorem AGHz:sos 324=none∧inls 324=false∧mvs 324=false∧als 324=false:=⟨rfl,rfl,rfl,rfl⟩
@[go_sem] theorem AGGz:sos 325=none∧inls 325=false∧mvs 325=false∧als 325=false:=⟨rfl,rfl,rfl,rfl⟩
@[go_sem] theorem AGFz:sos 326=none∧inls 326=false∧mvs 326=false∧als 326=false:=⟨rfl,rfl,rfl,rfl⟩
@[go_sem] theorem AGEz:sos 327=none∧inls 327=false∧mvs 327=false∧als 327=false:=⟨rfl,rfl,rfl,rfl⟩
@[go_sem] theorem AGDz:sos 330=none∧inls 330=false∧mvs 330=false∧als 330=false:=⟨rfl,rfl,rfl,rfl⟩
noncomputable def env:Env:=⟨tys,fns,orcs,dead,fun _=>[],inls,mvs,als⟩
@[go_sem] theorem AH7z {g}:env.al g=als g:=rfl
@[go_sem] theorem ADmz {g}:env.inl g=inls g:=rfl
@[go_sem] theorem AH6z {g}:env.mv g=mvs g:=rfl
@[go_sem] theorem AKAz:env.T=tys:=rfl
@[go_sem] theorem ABCz:env.dead=dead:=rfl
end Go.Proofs.YtblelojdboefjaaGreatDoor.R
namespace Go.Proofs.YtblelojdboefjaaGreatDoor.R
open Go
def Bd:Nat:=1048576
def inR (n:Int):Prop:= -9223372036854775808≤n∧n≤9223372036854775807
theorem Alz {a b:STy} {l:List PV} {m:Nat} (h:Fits (.cons a b) l m):∃x y n k,Fits a x n∧Fits b y k∧l=x++y∧m=n+k:=by
 cases h with
 |cons _ _ x y n k h1 h2=>exact⟨x,y,n,k,h1,h2,rfl,rfl⟩
theorem Djz {l:List PV} {m:Nat} (h:Fits .nil l m):l=[]:=by cases h;rfl
theorem N1z {k:IntKind} {l:List PV} {m:Nat} (h:Fits (.int k) l m):∃n,l=[.i k n]∧k.min≤n∧n≤k.max:=by
 cases h with
 |int _ n h1 h2=>exact⟨n,rfl,h1,h2⟩
theorem CAz {l:List PV} {m:Nat} (h:Fits (.int .i64) l m):∃n,l=[.i .i64 n]∧inR n:=by
 obtain⟨n,h1,h2,h3⟩:=N1z h
 exact⟨n,h1,h2,h3⟩
theorem Vtz {l:List PV} {m:Nat} (h:Fits (.int .u8) l m):∃b:UInt8,l=[.i .u8 (b.toNat:Int)]:=by
 obtain⟨n,h1,h2,h3⟩:=N1z h
 have h2':0≤n:=h2
 have h3':n≤255:=h3
 refine⟨UInt8.ofNat n.toNat,?_⟩
 rw[h1,UInt8.toNat_ofNat_of_lt' (by show n.toNat<256;omega),Int.toNat_of_nonneg h2']
theorem Skz {l:List PV} {m:Nat} (h:Fits .bool l m):∃b,l=[.b b]:=by cases h with|bool b=>exact⟨b,rfl⟩
theorem EPz {l:List PV} {m:Nat} (h:Fits .str l m):∃s,l=[.t s]∧s.size≤m:=by cases h with|str s=>exact⟨s,rfl,Nat.le_succ _⟩
theorem DTz {e:STy} {l:List PV} {m:Nat} (h:Fits (.sl e) l m):∃rows n,l=[.s e.size rows]∧FitsRows e rows n∧n≤m:=by
 cases h with|sl _ rows n h=>exact⟨rows,n,rfl,h,Nat.le_succ _⟩
mutual
theorem Ifz {s:STy} {l:List PV} {m:Nat} (h:Fits s l m):s.size≤m:=
 match h with
 | .int .. =>Nat.le_refl _
 | .bool _=>Nat.le_refl _
 | .str s=>Nat.le_add_left _ _
 | .sl .. =>Nat.le_add_left _ _
 | .nil=>Nat.le_refl _
 | .cons _ _ _ _ _ _ h1 h2=>Nat.add_le_add (Ifz h1) (Ifz h2)
end
theorem Cjz {α:Type} {e:STy} {pv:α→List PV} {ok:α→Prop} (he:1≤e.size):∀{rows:List (List PV)} {n:Nat},FitsRows e rows n→n≤Bd→(∀l m,Fits e l m→m≤Bd→∃x,l=pv x∧ok x)→∃l:List α,rows=l.map pv∧(∀x∈l,ok x)∧l.length≤Bd
 |rows,n,h,hn,of=>by
  suffices H:∃l:List α,rows=l.map pv∧(∀x∈l,ok x)∧l.length≤n by
   obtain⟨l,h1,h2,h3⟩:=H;exact⟨l,h1,h2,Nat.le_trans h3 hn⟩
  induction rows generalizing n with
  |nil=>exact⟨[],rfl,by simp,Nat.zero_le _⟩
  |cons row rows ih=>
   cases h with
   |cons _ _ _ n m h1 h2=>
    obtain⟨x,hx,ho⟩:=of row n h1 (by omega)
    obtain⟨l,hl,hok,hlen⟩:=ih m h2 (by omega)
    refine⟨x::l,by rw[hx,hl];rfl,fun y hy=> ?_,?_⟩
    ·cases hy with
     |head=>exact ho
     |tail _ hy=>exact hok y hy
    ·have:=Ifz h1
     simp only[List.length_cons];omega
attribute [go_sem] beq_self_eq_true bne_self_eq_false Int.toNat_natCast Int.natCast_nonneg List.length_map List.getElem?_map List.length_replicate List.length_set List.length_append
def slots (n:Nat):List (Nat×SV)→St
 |[]=>List.replicate n .undef
 |(d,v)::l=>(slots n l).set d v
attribute [go_sem] slots
def Big:Nat:=9223372036854775808
theorem ARz {n:Int} (h1: -9223372036854775808≤n) (h2:n≤9223372036854775807):IntKind.i64.wrap n=n:=Go.IntWalk.i64_in n ⟨h1,h2⟩
theorem ACz {j m:Nat} (h:j<m) (hm:m≤1152921504606846976):IntKind.i64.wrap ((j:Int)+1)=((j+1:Nat):Int):=by
 rw[ARz (by omega) (by omega)];omega
theorem AFz {E:Env} {call:CallF} {N n:Nat} {b:Code} {σ:St} {K:Kont (Ex×St)} (J:Nat→St→Prop) (k:Nat) (hk:k<n) (hi: @Wq _ (some (tidy N (E.D (BVz b)) σ)) ⟨fun σ=>J k σ⟩)
  (h:∀k σ,J k σ→ @Wq _ (AGz E call N n b σ) ⟨cont (fun σ=> @Wq _ (some (tidy N (E.D (BVz b)) σ)) ⟨fun σ=>∃k',k'<k∧J k' σ⟩) K.run⟩): @Wq _ (AGz E call N n (.loop b) σ) K:=by
 refine U8z (fun k σ=>J k (tidy N (E.D (BVz b)) σ)) k hk (by rw[Evz]at hi;exact hi) fun k σ hj=> ?_
 rw[Evz]
 refine(h k _ hj).mono fun r hr=> ?_
 obtain⟨e,τ⟩:=r
 cases e with
 |normal=>exact hr.elim fun τ hτ=>by obtain⟨h0,h⟩:=hτ;injection h0 with h0;subst h0;exact h
 |_=>exact hr
def AMz (p:PV):CV:= .sh (!p.scalar) p
attribute [go_sem] AMz
def bpv (b:UInt8):List PV:=[.i .u8 (b.toNat:Int)]
def ipv (n:Int):List PV:=[.i .i64 n]
def spv (s:ByteArray):List PV:=[.t s]
def okS (s:ByteArray):Prop:=s.size≤Bd
def okB (_:UInt8):Prop:=True
theorem NPz {rows:List (List PV)} {n:Nat} (h:FitsRows (.int .u8) rows n) (hn:n≤Bd):∃l:List UInt8,rows=l.map bpv∧(∀x∈l,okB x)∧l.length≤Bd:=
 Cjz (Nat.le_refl _) h hn fun l m h _=>by obtain⟨b,hb⟩:=Vtz h;exact⟨b,hb,trivial⟩
theorem T3z {rows:List (List PV)} {n:Nat} (h:FitsRows .str rows n) (hn:n≤Bd):∃l:List ByteArray,rows=l.map spv∧(∀x∈l,okS x)∧l.length≤Bd:=
 Cjz (Nat.le_refl _) h hn fun l m h hm=>by obtain⟨b,hb,hr⟩:=EPz h;exact⟨b,hb,Nat.le_trans hr hm⟩
def filling {α:Type} (pv:α→List PV) (l:List α) (z:List PV) (j:Nat):List (List PV):=(l.take j).map pv++List.replicate (l.length - j) z
section
variable {α:Type} {pv:α→List PV} {l:List α} {z:List PV} {j:Nat} {x:α}
theorem FSz:List.replicate l.length z=filling pv l z 0:=by simp[filling]
theorem GDz:filling pv l z l.length=l.map pv:=by simp[filling]
theorem ECz (h:j≤l.length):(filling pv l z j).length=l.length:=by simp[filling];omega
theorem GCz (h:j<l.length):(filling pv l z j)[j]? =some z:=by
 unfold filling
 rw[List.getElem?_append_right (by simp;omega)]
 simp only[List.length_map,List.length_take,List.getElem?_replicate]
 rw[if_pos (by omega)]
theorem GBz (h:l[j]? =some x):(filling pv l z j).set j (pv x)=filling pv l z (j+1):=by
 obtain⟨hj,hx⟩:=List.getElem?_eq_some_iff.1 h
 unfold filling
 rw[List.set_append_right _ _ (by simp;omega)]
 have e:l.length - j=(l.length - (j+1))+1:=by omega
 have e2:j - (List.map pv (List.take j l)).length=0:=by simp;omega
 rw[e,List.replicate_succ,e2,List.set_cons_zero,List.take_succ_eq_append_getElem hj,List.map_append,List.append_assoc,←hx]
 rfl
end
def frC:PV→CV
 | .s es rows=> .ow false es rows
 |p=> .sh false p
attribute [go_sem] frC Nat.zero_add Nat.add_zero
theorem DYz {x:Option Ret} (h: @Wq _ x ⟨fun r=>∃v,r=⟨pvSV (.i .i64 v),[]⟩⟩):∃v,x=some ⟨pvSV (.i .i64 v),[]⟩:=by
 obtain⟨r,h1,v,h2⟩:=h;exact⟨v,by rw[h1,h2]⟩
theorem Bqz {x:Int→Option Ret} (h:∀left,∃v,x left=some ⟨pvSV (.i .i64 v),[]⟩):∃g:Int→Int,∀left,x left=some ⟨pvSV (.i .i64 (g left)),[]⟩:=⟨fun l=>(h l).choose,fun l=>(h l).choose_spec⟩
theorem ASz:Bd<Big:=by decide
theorem AEz {n d:Nat} (h:Big+d≤n):∃m,n=m+1:=⟨n - 1,by have:=ASz;omega⟩
theorem deep {n a b:Nat} (h:Big+a≤n+1) (hab:b+1≤a):Big+b≤n:=by omega
theorem chk1 {T:Tys} {ops:Array Oper} (h:C6z T ops=true): @Chk ⟨C6z T ops=true⟩:=h
attribute [go_sem] bpv ipv spv
class OwnF {α:Type} (f:α→List PV) (g:outParam (α→List PV)):Prop where
 er:∀x,Cxz (f x)=g x
@[go_sem] theorem ZDz {α:Type} {l:List α} {f g:α→List PV} [OwnF f g]:Adz (l.map f)=l.map g:=by
 rw[Hlz];congr 1;funext x;exact OwnF.er x
def ovC:PV→CV
 | .o es rows=> .ow false es rows
 |p=> .sh false p
attribute [go_sem] ovC
instance:FlatF bpv:= .mk' fun _=>rfl
instance:FlatF ipv:= .mk' fun _=>rfl
instance:FlatF spv:= .mk' fun _=>rfl
instance:ScalF bpv:=⟨fun _=>rfl⟩
instance:ScalF ipv:=⟨fun _=>rfl⟩
instance:ScalF spv:=⟨fun _=>rfl⟩
end Go.Proofs.YtblelojdboefjaaGreatDoor.R
namespace Go.Proofs.YtblelojdboefjaaGreatDoor.R
open Go
structure TAttr where
 Name:ByteArray
 Val:ByteArray
def TAttr.pv (x:TAttr):List PV:=[.t x.Name,.t x.Val]
instance:FlatF TAttr.pv:= .mk' fun _=>rfl
instance:ScalF TAttr.pv:=⟨fun _=>rfl⟩
structure TAttr.ok (x:TAttr):Prop where
 Name:okS x.Name
 Val:okS x.Val
def Mcz:STy:= .cons .str (.cons .str .nil)
theorem TAttr.of (l:List PV) (m:Nat) (h0:Fits Mcz l m) (hm:m≤Bd):∃x:TAttr,l=x.pv∧x.ok:=by
 obtain⟨x0,r0,n0,k0,f0,h1,e0,rfl⟩:=Alz h0
 obtain⟨v0,rfl,o0⟩:=EPz f0
 obtain⟨x1,r1,n1,k1,f1,h2,e1,rfl⟩:=Alz h1
 obtain⟨v1,rfl,o1⟩:=EPz f1
 have:=Djz h2;subst this
 exact⟨⟨v0,v1⟩,by subst_vars;rfl,⟨Nat.le_trans o0 (by omega),Nat.le_trans o1 (by omega)⟩⟩
structure TEntry where
 Path:ByteArray
 Kind:Int
 Data:List UInt8
 Attrs:List TAttr
 First:ByteArray
def TEntry.pv (x:TEntry):List PV:=[.t x.Path,.i .i64 x.Kind,.s 1 (x.Data.map bpv),.s 2 (x.Attrs.map TAttr.pv),.t x.First]
instance:FlatF TEntry.pv:= .mk' fun _=>rfl
def TEntry.ov (x:TEntry):List PV:=[.t x.Path,.i .i64 x.Kind,.o 1 (x.Data.map bpv),.o 2 (x.Attrs.map TAttr.pv),.t x.First]
instance:OwnF TEntry.ov TEntry.pv:=⟨fun x=>by simp only[TEntry.ov,TEntry.pv,go_sem]⟩
structure TEntry.ok (x:TEntry):Prop where
 Path:okS x.Path
 Kind:inR x.Kind
 Data:(∀y∈x.Data,okB y)∧x.Data.length≤Bd
 Attrs:(∀y∈x.Attrs,TAttr.ok y)∧x.Attrs.length≤Bd
 First:okS x.First
def Rtz:STy:= .cons .str (.cons (.int .i64) (.cons (.sl (.int .u8)) (.cons (.sl Mcz) (.cons .str .nil))))
theorem TEntry.of (l:List PV) (m:Nat) (h0:Fits Rtz l m) (hm:m≤Bd):∃x:TEntry,l=x.pv∧x.ok:=by
 obtain⟨x0,r0,n0,k0,f0,h1,e0,rfl⟩:=Alz h0
 obtain⟨v0,rfl,o0⟩:=EPz f0
 obtain⟨x1,r1,n1,k1,f1,h2,e1,rfl⟩:=Alz h1
 obtain⟨v1,rfl,o1⟩:=CAz f1
 obtain⟨x2,r2,n2,k2,f2,h3,e2,rfl⟩:=Alz h2
 obtain⟨w2,m2,rfl,g2,b2⟩:=DTz f2
 obtain⟨v2,rfl,o2⟩:=NPz g2 (by omega)
 obtain⟨x3,r3,n3,k3,f3,h4,e3,rfl⟩:=Alz h3
 obtain⟨w3,m3,rfl,g3,b3⟩:=DTz f3
 obtain⟨v3,rfl,o3⟩:=Cjz (pv:=TAttr.pv) (ok:=TAttr.ok) (by decide) g3 (by omega) TAttr.of
 obtain⟨x4,r4,n4,k4,f4,h5,e4,rfl⟩:=Alz h4
 obtain⟨v4,rfl,o4⟩:=EPz f4
 have:=Djz h5;subst this
 exact⟨⟨v0,v1,v2,v3,v4⟩,by subst_vars;rfl,⟨Nat.le_trans o0 (by omega),o1,o2,o3,Nat.le_trans o4 (by omega)⟩⟩
structure TDelta where
 Attrs:List TAttr
 Gone:List ByteArray
 Fresh:List TEntry
def TDelta.pv (x:TDelta):List PV:=[.s 2 (x.Attrs.map TAttr.pv),.s 1 (x.Gone.map spv),.s 5 (x.Fresh.map TEntry.pv)]
instance:FlatF TDelta.pv:= .mk' fun _=>rfl
def TDelta.ov (x:TDelta):List PV:=[.o 2 (x.Attrs.map TAttr.pv),.o 1 (x.Gone.map spv),.o 5 (x.Fresh.map TEntry.ov)]
instance:OwnF TDelta.ov TDelta.pv:=⟨fun x=>by simp only[TDelta.ov,TDelta.pv,go_sem]⟩
structure TDelta.ok (x:TDelta):Prop where
 Attrs:(∀y∈x.Attrs,TAttr.ok y)∧x.Attrs.length≤Bd
 Gone:(∀y∈x.Gone,okS y)∧x.Gone.length≤Bd
 Fresh:(∀y∈x.Fresh,TEntry.ok y)∧x.Fresh.length≤Bd
def Wwz:STy:= .cons (.sl Mcz) (.cons (.sl .str) (.cons (.sl Rtz) .nil))
theorem TDelta.of (l:List PV) (m:Nat) (h0:Fits Wwz l m) (hm:m≤Bd):∃x:TDelta,l=x.pv∧x.ok:=by
 obtain⟨x0,r0,n0,k0,f0,h1,e0,rfl⟩:=Alz h0
 obtain⟨w0,m0,rfl,g0,b0⟩:=DTz f0
 obtain⟨v0,rfl,o0⟩:=Cjz (pv:=TAttr.pv) (ok:=TAttr.ok) (by decide) g0 (by omega) TAttr.of
 obtain⟨x1,r1,n1,k1,f1,h2,e1,rfl⟩:=Alz h1
 obtain⟨w1,m1,rfl,g1,b1⟩:=DTz f1
 obtain⟨v1,rfl,o1⟩:=T3z g1 (by omega)
 obtain⟨x2,r2,n2,k2,f2,h3,e2,rfl⟩:=Alz h2
 obtain⟨w2,m2,rfl,g2,b2⟩:=DTz f2
 obtain⟨v2,rfl,o2⟩:=Cjz (pv:=TEntry.pv) (ok:=TEntry.ok) (by decide) g2 (by omega) TEntry.of
 have:=Djz h3;subst this
 exact⟨⟨v0,v1,v2⟩,by subst_vars;rfl,⟨o0,o1,o2⟩⟩
structure TEnt where
 Name:ByteArray
 Ino:Int
def TEnt.pv (x:TEnt):List PV:=[.t x.Name,.i .i64 x.Ino]
instance:FlatF TEnt.pv:= .mk' fun _=>rfl
instance:ScalF TEnt.pv:=⟨fun _=>rfl⟩
structure TEnt.ok (x:TEnt):Prop where
 Name:okS x.Name
 Ino:inR x.Ino
def sEnt:STy:= .cons .str (.cons (.int .i64) .nil)
theorem TEnt.of (l:List PV) (m:Nat) (h0:Fits sEnt l m) (hm:m≤Bd):∃x:TEnt,l=x.pv∧x.ok:=by
 obtain⟨x0,r0,n0,k0,f0,h1,e0,rfl⟩:=Alz h0
 obtain⟨v0,rfl,o0⟩:=EPz f0
 obtain⟨x1,r1,n1,k1,f1,h2,e1,rfl⟩:=Alz h1
 obtain⟨v1,rfl,o1⟩:=CAz f1
 have:=Djz h2;subst this
 exact⟨⟨v0,v1⟩,by subst_vars;rfl,⟨Nat.le_trans o0 (by omega),o1⟩⟩
structure TInode where
 Ino:Int
 Kind:Int
 Links:Int
 Data:List UInt8
 Ents:List TEnt
 Attrs:List TAttr
def TInode.pv (x:TInode):List PV:=[.i .i64 x.Ino,.i .i64 x.Kind,.i .i64 x.Links,.s 1 (x.Data.map bpv),.s 2 (x.Ents.map TEnt.pv),.s 2 (x.Attrs.map TAttr.pv)]
instance:FlatF TInode.pv:= .mk' fun _=>rfl
def TInode.ov (x:TInode):List PV:=[.i .i64 x.Ino,.i .i64 x.Kind,.i .i64 x.Links,.o 1 (x.Data.map bpv),.o 2 (x.Ents.map TEnt.pv),.o 2 (x.Attrs.map TAttr.pv)]
instance:OwnF TInode.ov TInode.pv:=⟨fun x=>by simp only[TInode.ov,TInode.pv,go_sem]⟩
structure TInode.ok (x:TInode):Prop where
 Ino:inR x.Ino
 Kind:inR x.Kind
 Links:inR x.Links
 Data:(∀y∈x.Data,okB y)∧x.Data.length≤Bd
 Ents:(∀y∈x.Ents,TEnt.ok y)∧x.Ents.length≤Bd
 Attrs:(∀y∈x.Attrs,TAttr.ok y)∧x.Attrs.length≤Bd
def Rsz:STy:= .cons (.int .i64) (.cons (.int .i64) (.cons (.int .i64) (.cons (.sl (.int .u8)) (.cons (.sl sEnt) (.cons (.sl Mcz) .nil)))))
theorem TInode.of (l:List PV) (m:Nat) (h0:Fits Rsz l m) (hm:m≤Bd):∃x:TInode,l=x.pv∧x.ok:=by
 obtain⟨x0,r0,n0,k0,f0,h1,e0,rfl⟩:=Alz h0
 obtain⟨v0,rfl,o0⟩:=CAz f0
 obtain⟨x1,r1,n1,k1,f1,h2,e1,rfl⟩:=Alz h1
 obtain⟨v1,rfl,o1⟩:=CAz f1
 obtain⟨x2,r2,n2,k2,f2,h3,e2,rfl⟩:=Alz h2
 obtain⟨v2,rfl,o2⟩:=CAz f2
 obtain⟨x3,r3,n3,k3,f3,h4,e3,rfl⟩:=Alz h3
 obtain⟨w3,m3,rfl,g3,b3⟩:=DTz f3
 obtain⟨v3,rfl,o3⟩:=NPz g3 (by omega)
 obtain⟨x4,r4,n4,k4,f4,h5,e4,rfl⟩:=Alz h4
 obtain⟨w4,m4,rfl,g4,b4⟩:=DTz f4
 obtain⟨v4,rfl,o4⟩:=Cjz (pv:=TEnt.pv) (ok:=TEnt.ok) (by decide) g4 (by omega) TEnt.of
 obtain⟨x5,r5,n5,k5,f5,h6,e5,rfl⟩:=Alz h5
 obtain⟨w5,m5,rfl,g5,b5⟩:=DTz f5
 obtain⟨v5,rfl,o5⟩:=Cjz (pv:=TAttr.pv) (ok:=TAttr.ok) (by decide) g5 (by omega) TAttr.of
 have:=Djz h6;subst this
 exact⟨⟨v0,v1,v2,v3,v4,v5⟩,by subst_vars;rfl,⟨o0,o1,o2,o3,o4,o5⟩⟩
structure TTab where
 Inodes:List TInode
 Next:Int
def TTab.pv (x:TTab):List PV:=[.s 6 (x.Inodes.map TInode.pv),.i .i64 x.Next]
instance:FlatF TTab.pv:= .mk' fun _=>rfl
def TTab.ov (x:TTab):List PV:=[.o 6 (x.Inodes.map TInode.ov),.i .i64 x.Next]
instance:OwnF TTab.ov TTab.pv:=⟨fun x=>by simp only[TTab.ov,TTab.pv,go_sem]⟩
structure TTab.ok (x:TTab):Prop where
 Inodes:(∀y∈x.Inodes,TInode.ok y)∧x.Inodes.length≤Bd
 Next:inR x.Next
def sTab:STy:= .cons (.sl Rsz) (.cons (.int .i64) .nil)
theorem TTab.of (l:List PV) (m:Nat) (h0:Fits sTab l m) (hm:m≤Bd):∃x:TTab,l=x.pv∧x.ok:=by
 obtain⟨x0,r0,n0,k0,f0,h1,e0,rfl⟩:=Alz h0
 obtain⟨w0,m0,rfl,g0,b0⟩:=DTz f0
 obtain⟨v0,rfl,o0⟩:=Cjz (pv:=TInode.pv) (ok:=TInode.ok) (by decide) g0 (by omega) TInode.of
 obtain⟨x1,r1,n1,k1,f1,h2,e1,rfl⟩:=Alz h1
 obtain⟨v1,rfl,o1⟩:=CAz f1
 have:=Djz h2;subst this
 exact⟨⟨v0,v1⟩,by subst_vars;rfl,⟨o0,o1⟩⟩
structure TVol where
 Id:Int
 Name:ByteArray
 Ro:Bool
 Limit:Int
 T:TTab
def TVol.pv (x:TVol):List PV:=[.i .i64 x.Id,.t x.Name,.b x.Ro,.i .i64 x.Limit,.s 6 (x.T.Inodes.map TInode.pv),.i .i64 x.T.Next]
instance:FlatF TVol.pv:= .mk' fun _=>rfl
def TVol.ov (x:TVol):List PV:=[.i .i64 x.Id,.t x.Name,.b x.Ro,.i .i64 x.Limit,.o 6 (x.T.Inodes.map TInode.ov),.i .i64 x.T.Next]
instance:OwnF TVol.ov TVol.pv:=⟨fun x=>by simp only[TVol.ov,TVol.pv,go_sem]⟩
structure TVol.ok (x:TVol):Prop where
 Id:inR x.Id
 Name:okS x.Name
 Limit:inR x.Limit
 T:TTab.ok x.T
def sVol:STy:= .cons (.int .i64) (.cons .str (.cons .bool (.cons (.int .i64) (.cons sTab .nil))))
theorem TVol.of (l:List PV) (m:Nat) (h0:Fits sVol l m) (hm:m≤Bd):∃x:TVol,l=x.pv∧x.ok:=by
 obtain⟨x0,r0,n0,k0,f0,h1,e0,rfl⟩:=Alz h0
 obtain⟨v0,rfl,o0⟩:=CAz f0
 obtain⟨x1,r1,n1,k1,f1,h2,e1,rfl⟩:=Alz h1
 obtain⟨v1,rfl,o1⟩:=EPz f1
 obtain⟨x2,r2,n2,k2,f2,h3,e2,rfl⟩:=Alz h2
 obtain⟨v2,rfl⟩:=Skz f2
 obtain⟨x3,r3,n3,k3,f3,h4,e3,rfl⟩:=Alz h3
 obtain⟨v3,rfl,o3⟩:=CAz f3
 obtain⟨x4,r4,n4,k4,f4,h5,e4,rfl⟩:=Alz h4
 obtain⟨v4,rfl,o4⟩:=TTab.of _ _ f4 (by omega)
 have:=Djz h5;subst this
 exact⟨⟨v0,v1,v2,v3,v4⟩,by subst_vars;rfl,⟨o0,Nat.le_trans o1 (by omega),o3,o4⟩⟩
structure TFs where
 Vols:List TVol
 Next:Int
def TFs.pv (x:TFs):List PV:=[.s 6 (x.Vols.map TVol.pv),.i .i64 x.Next]
instance:FlatF TFs.pv:= .mk' fun _=>rfl
def TFs.ov (x:TFs):List PV:=[.o 6 (x.Vols.map TVol.ov),.i .i64 x.Next]
instance:OwnF TFs.ov TFs.pv:=⟨fun x=>by simp only[TFs.ov,TFs.pv,go_sem]⟩
structure TFs.ok (x:TFs):Prop where
 Vols:(∀y∈x.Vols,TVol.ok y)∧x.Vols.length≤Bd
 Next:inR x.Next
def sFs:STy:= .cons (.sl sVol) (.cons (.int .i64) .nil)
theorem TFs.of (l:List PV) (m:Nat) (h0:Fits sFs l m) (hm:m≤Bd):∃x:TFs,l=x.pv∧x.ok:=by
 obtain⟨x0,r0,n0,k0,f0,h1,e0,rfl⟩:=Alz h0
 obtain⟨w0,m0,rfl,g0,b0⟩:=DTz f0
 obtain⟨v0,rfl,o0⟩:=Cjz (pv:=TVol.pv) (ok:=TVol.ok) (by decide) g0 (by omega) TVol.of
 obtain⟨x1,r1,n1,k1,f1,h2,e1,rfl⟩:=Alz h1
 obtain⟨v1,rfl,o1⟩:=CAz f1
 have:=Djz h2;subst this
 exact⟨⟨v0,v1⟩,by subst_vars;rfl,⟨o0,o1⟩⟩
end Go.Proofs.YtblelojdboefjaaGreatDoor.R
namespace Go.Proofs.YtblelojdboefjaaGreatDoor.R
open Go
attribute [go_sem] TTab.ov TFs.ov TDelta.ov TInode.ov TVol.ov TEntry.ov
attribute [go_sem] TTab.pv TFs.pv TDelta.pv TInode.pv TVol.pv TAttr.pv TEntry.pv TEnt.pv
theorem Soz (n:Nat) (hn:Big+1≤n) (x:TAttr) (hx:x.ok):pcall env n 125 [.c .agg (x.pv.map AMz),.c .agg (x.pv.map AMz)] []=some ⟨pvSV (.b true),[]⟩:=by
 obtain⟨m,rfl⟩:=AEz hn
 refine ANz (ADz (fn:=Tryz.f125) rfl rfl rfl (Nat.le_of_ble_eq_true rfl) ?_)
 unfold Tryz.f125
 simp only[go_sem,seval]
theorem Q0z (n:Nat) (hn:Big+2≤n) (l:List TAttr) (ho:∀y∈l,TAttr.ok y) (hl:l.length≤Bd):pcall env n 49 [.c .one [.sh true (.s 2 (l.map TAttr.pv))],.c .one [.sh true (.s 2 (l.map TAttr.pv))]] []=some ⟨pvSV (.b true),[]⟩:=by
 obtain⟨m,rfl⟩:=AEz hn
 have hB:=ASz
 have hb:Bd=1048576:=rfl
 refine ANz (ADz (fn:=Tryz.f49) rfl rfl rfl (Nat.le_of_ble_eq_true rfl) ?_)
 unfold Tryz.f49
 simp only[go_sem,seval]
 refine AFz (fun k σ=>∃j:Nat,j≤l.length∧k=l.length - j∧σ=slots 27 [(0,.c .one [.sh true (.s 2 (l.map TAttr.pv))]),(1,.c .one [.sh true (.s 2 (l.map TAttr.pv))]),(5,.c .one [.sh false (.i .i64 (j:Nat))])]) l.length (by omega) ?_ ?_
 ·simp only[go_sem,seval]
  exact⟨0,Nat.zero_le _,rfl,rfl⟩
 ·rintro k σ ⟨j,hj,rfl,rfl⟩
  by_cases hlt:j<l.length
  ·have h1:((j:Int)<(l.length:Int)):=by omega
   have hv:=Soz m (by omega) l[j] (ho _ (List.getElem_mem hlt))
   have hx:l[j]? =some l[j]:=List.getElem?_eq_getElem hlt
   generalize l[j]=x at hv hx
   try simp only[go_sem]at hv
   simp only[go_sem,seval,h1,hx,ACz hlt (by omega),hv]
   first|exact⟨_,by omega,j+1,hlt,rfl,rfl⟩|exact chk (by kernel_rfl) ⟨_,by omega,j+1,hlt,rfl,rfl⟩
  ·have h1:¬((j:Int)<(l.length:Int)):=by omega
   simp only[go_sem,seval,h1]
theorem Ktz (n:Nat) (hn:Big+1≤n) (l:List UInt8) (ho:∀y∈l,okB y) (hl:l.length≤Bd):pcall env n 21 [.c .one [.sh true (.s 1 (l.map bpv))],.c .one [.sh true (.s 1 (l.map bpv))]] []=some ⟨pvSV (.b true),[]⟩:=by
 obtain⟨m,rfl⟩:=AEz hn
 have hB:=ASz
 have hb:Bd=1048576:=rfl
 refine ANz (ADz (fn:=Tryz.f21) rfl rfl rfl (Nat.le_of_ble_eq_true rfl) ?_)
 unfold Tryz.f21
 simp only[go_sem,seval]
 refine AFz (fun k σ=>∃j:Nat,j≤l.length∧k=l.length - j∧σ=slots 26 [(0,.c .one [.sh true (.s 1 (l.map bpv))]),(1,.c .one [.sh true (.s 1 (l.map bpv))]),(5,.c .one [.sh false (.i .i64 (j:Nat))])]) l.length (by omega) ?_ ?_
 ·simp only[go_sem,seval]
  exact⟨0,Nat.zero_le _,rfl,rfl⟩
 ·rintro k σ ⟨j,hj,rfl,rfl⟩
  by_cases hlt:j<l.length
  ·have h1:((j:Int)<(l.length:Int)):=by omega
   have hx:l[j]? =some l[j]:=List.getElem?_eq_getElem hlt
   generalize l[j]=x at hx
   simp only[go_sem,seval,h1,hx,ACz hlt (by omega)]
   first|exact⟨_,by omega,j+1,hlt,rfl,rfl⟩|exact chk (by kernel_rfl) ⟨_,by omega,j+1,hlt,rfl,rfl⟩
  ·have h1:¬((j:Int)<(l.length:Int)):=by omega
   simp only[go_sem,seval,h1]
theorem UUz (n:Nat) (hn:Big+1≤n) (x:TEnt) (hx:x.ok):pcall env n 249 [.c .agg (x.pv.map AMz),.c .agg (x.pv.map AMz)] []=some ⟨pvSV (.b true),[]⟩:=by
 obtain⟨m,rfl⟩:=AEz hn
 refine ANz (ADz (fn:=Tryz.f249) rfl rfl rfl (Nat.le_of_ble_eq_true rfl) ?_)
 unfold Tryz.f249
 simp only[go_sem,seval]
theorem Snz (n:Nat) (hn:Big+2≤n) (l:List TEnt) (ho:∀y∈l,TEnt.ok y) (hl:l.length≤Bd):pcall env n 207 [.c .one [.sh true (.s 2 (l.map TEnt.pv))],.c .one [.sh true (.s 2 (l.map TEnt.pv))]] []=some ⟨pvSV (.b true),[]⟩:=by
 obtain⟨m,rfl⟩:=AEz hn
 have hB:=ASz
 have hb:Bd=1048576:=rfl
 refine ANz (ADz (fn:=Tryz.f207) rfl rfl rfl (Nat.le_of_ble_eq_true rfl) ?_)
 unfold Tryz.f207
 simp only[go_sem,seval]
 refine AFz (fun k σ=>∃j:Nat,j≤l.length∧k=l.length - j∧σ=slots 27 [(0,.c .one [.sh true (.s 2 (l.map TEnt.pv))]),(1,.c .one [.sh true (.s 2 (l.map TEnt.pv))]),(5,.c .one [.sh false (.i .i64 (j:Nat))])]) l.length (by omega) ?_ ?_
 ·simp only[go_sem,seval]
  exact⟨0,Nat.zero_le _,rfl,rfl⟩
 ·rintro k σ ⟨j,hj,rfl,rfl⟩
  by_cases hlt:j<l.length
  ·have h1:((j:Int)<(l.length:Int)):=by omega
   have hv:=UUz m (by omega) l[j] (ho _ (List.getElem_mem hlt))
   have hx:l[j]? =some l[j]:=List.getElem?_eq_getElem hlt
   generalize l[j]=x at hv hx
   try simp only[go_sem]at hv
   simp only[go_sem,seval,h1,hx,ACz hlt (by omega),hv]
   first|exact⟨_,by omega,j+1,hlt,rfl,rfl⟩|exact chk (by kernel_rfl) ⟨_,by omega,j+1,hlt,rfl,rfl⟩
  ·have h1:¬((j:Int)<(l.length:Int)):=by omega
   simp only[go_sem,seval,h1]
theorem Qzz (n:Nat) (hn:Big+3≤n) (x:TInode) (hx:x.ok):pcall env n 127 [.c .agg (x.pv.map AMz),.c .agg (x.pv.map AMz)] []=some ⟨pvSV (.b true),[]⟩:=by
 obtain⟨m,rfl⟩:=AEz hn
 have c0:=Ktz m (by omega) x.Data hx.Data.1 hx.Data.2
 try simp only[go_sem]at c0
 have c1:=Snz m (by omega) x.Ents hx.Ents.1 hx.Ents.2
 try simp only[go_sem]at c1
 have c2:=Q0z m (by omega) x.Attrs hx.Attrs.1 hx.Attrs.2
 try simp only[go_sem]at c2
 refine ANz (ADz (fn:=Tryz.f127) rfl rfl rfl (Nat.le_of_ble_eq_true rfl) ?_)
 unfold Tryz.f127
 simp only[go_sem,seval,c0,c1,c2]
theorem PDz (n:Nat) (hn:Big+4≤n) (l:List TInode) (ho:∀y∈l,TInode.ok y) (hl:l.length≤Bd):pcall env n 52 [.c .one [.sh true (.s 6 (l.map TInode.pv))],.c .one [.sh true (.s 6 (l.map TInode.pv))]] []=some ⟨pvSV (.b true),[]⟩:=by
 obtain⟨m,rfl⟩:=AEz hn
 have hB:=ASz
 have hb:Bd=1048576:=rfl
 refine ANz (ADz (fn:=Tryz.f52) rfl rfl rfl (Nat.le_of_ble_eq_true rfl) ?_)
 unfold Tryz.f52
 simp only[go_sem,seval]
 refine AFz (fun k σ=>∃j:Nat,j≤l.length∧k=l.length - j∧σ=slots 27 [(0,.c .one [.sh true (.s 6 (l.map TInode.pv))]),(1,.c .one [.sh true (.s 6 (l.map TInode.pv))]),(5,.c .one [.sh false (.i .i64 (j:Nat))])]) l.length (by omega) ?_ ?_
 ·simp only[go_sem,seval]
  exact⟨0,Nat.zero_le _,rfl,rfl⟩
 ·rintro k σ ⟨j,hj,rfl,rfl⟩
  by_cases hlt:j<l.length
  ·have h1:((j:Int)<(l.length:Int)):=by omega
   have hv:=Qzz m (by omega) l[j] (ho _ (List.getElem_mem hlt))
   have hx:l[j]? =some l[j]:=List.getElem?_eq_getElem hlt
   generalize l[j]=x at hv hx
   try simp only[go_sem]at hv
   simp only[go_sem,seval,h1,hx,ACz hlt (by omega),hv]
   first|exact⟨_,by omega,j+1,hlt,rfl,rfl⟩|exact chk (by kernel_rfl) ⟨_,by omega,j+1,hlt,rfl,rfl⟩
  ·have h1:¬((j:Int)<(l.length:Int)):=by omega
   simp only[go_sem,seval,h1]
theorem UTz (n:Nat) (hn:Big+5≤n) (x:TTab) (hx:x.ok):pcall env n 13 [.c .agg (x.pv.map AMz),.c .agg (x.pv.map AMz)] []=some ⟨pvSV (.b true),[]⟩:=by
 obtain⟨m,rfl⟩:=AEz hn
 have c0:=PDz m (by omega) x.Inodes hx.Inodes.1 hx.Inodes.2
 try simp only[go_sem]at c0
 refine ANz (ADz (fn:=Tryz.f13) rfl rfl rfl (Nat.le_of_ble_eq_true rfl) ?_)
 unfold Tryz.f13
 simp only[go_sem,seval,c0]
theorem USz (n:Nat) (hn:Big+6≤n) (x:TVol) (hx:x.ok):pcall env n 148 [.c .agg (x.pv.map AMz),.c .agg (x.pv.map AMz)] []=some ⟨pvSV (.b true),[]⟩:=by
 obtain⟨m,rfl⟩:=AEz hn
 have c0:=UTz m (by omega) x.T hx.T
 try simp only[go_sem]at c0
 refine ANz (ADz (fn:=Tryz.f148) rfl rfl rfl (Nat.le_of_ble_eq_true rfl) ?_)
 unfold Tryz.f148
 simp only[go_sem,seval,c0]
theorem Smz (n:Nat) (hn:Big+7≤n) (l:List TVol) (ho:∀y∈l,TVol.ok y) (hl:l.length≤Bd):pcall env n 69 [.c .one [.sh true (.s 6 (l.map TVol.pv))],.c .one [.sh true (.s 6 (l.map TVol.pv))]] []=some ⟨pvSV (.b true),[]⟩:=by
 obtain⟨m,rfl⟩:=AEz hn
 have hB:=ASz
 have hb:Bd=1048576:=rfl
 refine ANz (ADz (fn:=Tryz.f69) rfl rfl rfl (Nat.le_of_ble_eq_true rfl) ?_)
 unfold Tryz.f69
 simp only[go_sem,seval]
 refine AFz (fun k σ=>∃j:Nat,j≤l.length∧k=l.length - j∧σ=slots 27 [(0,.c .one [.sh true (.s 6 (l.map TVol.pv))]),(1,.c .one [.sh true (.s 6 (l.map TVol.pv))]),(5,.c .one [.sh false (.i .i64 (j:Nat))])]) l.length (by omega) ?_ ?_
 ·simp only[go_sem,seval]
  exact⟨0,Nat.zero_le _,rfl,rfl⟩
 ·rintro k σ ⟨j,hj,rfl,rfl⟩
  by_cases hlt:j<l.length
  ·have h1:((j:Int)<(l.length:Int)):=by omega
   have hv:=USz m (by omega) l[j] (ho _ (List.getElem_mem hlt))
   have hx:l[j]? =some l[j]:=List.getElem?_eq_getElem hlt
   generalize l[j]=x at hv hx
   try simp only[go_sem]at hv
   simp only[go_sem,seval,h1,hx,ACz hlt (by omega),hv]
   first|exact⟨_,by omega,j+1,hlt,rfl,rfl⟩|exact chk (by kernel_rfl) ⟨_,by omega,j+1,hlt,rfl,rfl⟩
  ·have h1:¬((j:Int)<(l.length:Int)):=by omega
   simp only[go_sem,seval,h1]
theorem Vvz (n:Nat) (hn:Big+8≤n) (x:TFs) (hx:x.ok):pcall env n 22 [.c .agg (x.pv.map AMz),.c .agg (x.pv.map AMz)] []=some ⟨pvSV (.b true),[]⟩:=by
 obtain⟨m,rfl⟩:=AEz hn
 have c0:=Smz m (by omega) x.Vols hx.Vols.1 hx.Vols.2
 try simp only[go_sem]at c0
 refine ANz (ADz (fn:=Tryz.f22) rfl rfl rfl (Nat.le_of_ble_eq_true rfl) ?_)
 unfold Tryz.f22
 simp only[go_sem,seval,c0]
theorem Rlz (n:Nat) (hn:Big+1≤n) (x:TAttr) (hx:x.ok):∃g:Int→Int,∀left,pcall env n 149 [.c .agg (x.pv.map AMz),pvSV (.i .i64 left)] []=some ⟨pvSV (.i .i64 (g left)),[]⟩:=by
 refine Bqz fun left=> ?_
 obtain⟨m,rfl⟩:=AEz hn
 refine DYz (ADz (fn:=Tryz.f149) rfl rfl rfl (Nat.le_of_ble_eq_true rfl) ?_)
 unfold Tryz.f149
 simp only[go_sem,seval]
 repeat' (first|exact⟨_,rfl⟩|(refine Czz (fun h=> ?_) (fun h=> ?_)<;>simp only[go_sem,seval]))
theorem QMz (n:Nat) (hn:Big+2≤n) (l:List TAttr) (ho:∀y∈l,TAttr.ok y) (hl:l.length≤Bd):∃g:Int→Int,∀left,pcall env n 71 [.c .one [.sh true (.s 2 (l.map TAttr.pv))],pvSV (.i .i64 left)] []=some ⟨pvSV (.i .i64 (g left)),[]⟩:=by
 refine Bqz fun left=> ?_
 obtain⟨m,rfl⟩:=AEz hn
 have hB:=ASz
 have hb:Bd=1048576:=rfl
 refine DYz (ADz (fn:=Tryz.f71) rfl rfl rfl (Nat.le_of_ble_eq_true rfl) ?_)
 unfold Tryz.f71
 simp only[go_sem,seval]
 refine Czz (fun h=> ?_) (fun h=> ?_)<;>simp only[go_sem,seval]
 ·exact⟨_,rfl⟩
 refine AFz (fun k σ=>∃v,∃j:Nat,j≤l.length∧k=l.length - j∧σ=slots 27 [(0,.c .one [.sh true (.s 2 (l.map TAttr.pv))]),(1,.c .one [.sh false (.i .i64 v)]),(5,.c .one [.sh false (.i .i64 (j:Nat))])]) l.length (by omega) ?_ ?_
 ·simp only[go_sem,seval]
  exact⟨_,0,Nat.zero_le _,rfl,rfl⟩
 ·rintro k σ ⟨v,j,hj,rfl,rfl⟩
  by_cases hlt:j<l.length
  ·have h1:((j:Int)<(l.length:Int)):=by omega
   obtain⟨g,hv⟩:=Rlz m (by omega) l[j] (ho _ (List.getElem_mem hlt))
   have hx:l[j]? =some l[j]:=List.getElem?_eq_getElem hlt
   generalize l[j]=x at hv hx
   try simp only[go_sem]at hv
   simp only[go_sem,seval,h1,hx,ACz hlt (by omega),hv]
   refine Czz (fun h=> ?_) (fun h=> ?_)<;>simp only[go_sem,seval,h1,hx,ACz hlt (by omega),hv]
   ·exact⟨_,rfl⟩
   ·exact⟨_,by omega,_,j+1,hlt,rfl,rfl⟩
  ·have h1:¬((j:Int)<(l.length:Int)):=by omega
   simp only[go_sem,seval,h1]
   exact⟨_,rfl⟩
theorem QLz (n:Nat) (hn:Big+1≤n) (l:List UInt8) (ho:∀y∈l,okB y) (hl:l.length≤Bd):∃g:Int→Int,∀left,pcall env n 187 [.c .one [.sh true (.s 1 (l.map bpv))],pvSV (.i .i64 left)] []=some ⟨pvSV (.i .i64 (g left)),[]⟩:=by
 refine Bqz fun left=> ?_
 obtain⟨m,rfl⟩:=AEz hn
 have hB:=ASz
 have hb:Bd=1048576:=rfl
 refine DYz (ADz (fn:=Tryz.f187) rfl rfl rfl (Nat.le_of_ble_eq_true rfl) ?_)
 unfold Tryz.f187
 simp only[go_sem,seval]
 repeat' (first|exact⟨_,rfl⟩|(refine Czz (fun h=> ?_) (fun h=> ?_)<;>simp only[go_sem,seval]))
theorem TZz (n:Nat) (hn:Big+1≤n) (x:TEnt) (hx:x.ok):∃g:Int→Int,∀left,pcall env n 238 [.c .agg (x.pv.map AMz),pvSV (.i .i64 left)] []=some ⟨pvSV (.i .i64 (g left)),[]⟩:=by
 refine Bqz fun left=> ?_
 obtain⟨m,rfl⟩:=AEz hn
 refine DYz (ADz (fn:=Tryz.f238) rfl rfl rfl (Nat.le_of_ble_eq_true rfl) ?_)
 unfold Tryz.f238
 simp only[go_sem,seval]
 repeat' (first|exact⟨_,rfl⟩|(refine Czz (fun h=> ?_) (fun h=> ?_)<;>simp only[go_sem,seval]))
theorem Rkz (n:Nat) (hn:Big+2≤n) (l:List TEnt) (ho:∀y∈l,TEnt.ok y) (hl:l.length≤Bd):∃g:Int→Int,∀left,pcall env n 188 [.c .one [.sh true (.s 2 (l.map TEnt.pv))],pvSV (.i .i64 left)] []=some ⟨pvSV (.i .i64 (g left)),[]⟩:=by
 refine Bqz fun left=> ?_
 obtain⟨m,rfl⟩:=AEz hn
 have hB:=ASz
 have hb:Bd=1048576:=rfl
 refine DYz (ADz (fn:=Tryz.f188) rfl rfl rfl (Nat.le_of_ble_eq_true rfl) ?_)
 unfold Tryz.f188
 simp only[go_sem,seval]
 refine Czz (fun h=> ?_) (fun h=> ?_)<;>simp only[go_sem,seval]
 ·exact⟨_,rfl⟩
 refine AFz (fun k σ=>∃v,∃j:Nat,j≤l.length∧k=l.length - j∧σ=slots 27 [(0,.c .one [.sh true (.s 2 (l.map TEnt.pv))]),(1,.c .one [.sh false (.i .i64 v)]),(5,.c .one [.sh false (.i .i64 (j:Nat))])]) l.length (by omega) ?_ ?_
 ·simp only[go_sem,seval]
  exact⟨_,0,Nat.zero_le _,rfl,rfl⟩
 ·rintro k σ ⟨v,j,hj,rfl,rfl⟩
  by_cases hlt:j<l.length
  ·have h1:((j:Int)<(l.length:Int)):=by omega
   obtain⟨g,hv⟩:=TZz m (by omega) l[j] (ho _ (List.getElem_mem hlt))
   have hx:l[j]? =some l[j]:=List.getElem?_eq_getElem hlt
   generalize l[j]=x at hv hx
   try simp only[go_sem]at hv
   simp only[go_sem,seval,h1,hx,ACz hlt (by omega),hv]
   refine Czz (fun h=> ?_) (fun h=> ?_)<;>simp only[go_sem,seval,h1,hx,ACz hlt (by omega),hv]
   ·exact⟨_,rfl⟩
   ·exact⟨_,by omega,_,j+1,hlt,rfl,rfl⟩
  ·have h1:¬((j:Int)<(l.length:Int)):=by omega
   simp only[go_sem,seval,h1]
   exact⟨_,rfl⟩
theorem QKz (n:Nat) (hn:Big+3≤n) (x:TInode) (hx:x.ok):∃g:Int→Int,∀left,pcall env n 104 [.c .agg (x.pv.map AMz),pvSV (.i .i64 left)] []=some ⟨pvSV (.i .i64 (g left)),[]⟩:=by
 refine Bqz fun left=> ?_
 obtain⟨m,rfl⟩:=AEz hn
 obtain⟨g0,c0⟩:=QLz m (by omega) x.Data hx.Data.1 hx.Data.2
 try simp only[go_sem]at c0
 obtain⟨g1,c1⟩:=Rkz m (by omega) x.Ents hx.Ents.1 hx.Ents.2
 try simp only[go_sem]at c1
 obtain⟨g2,c2⟩:=QMz m (by omega) x.Attrs hx.Attrs.1 hx.Attrs.2
 try simp only[go_sem]at c2
 refine DYz (ADz (fn:=Tryz.f104) rfl rfl rfl (Nat.le_of_ble_eq_true rfl) ?_)
 unfold Tryz.f104
 simp only[go_sem,seval,c0,c1,c2]
 repeat' (first|exact⟨_,rfl⟩|(refine Czz (fun h=> ?_) (fun h=> ?_)<;>simp only[go_sem,seval,c0,c1,c2]))
theorem Orz (n:Nat) (hn:Big+4≤n) (l:List TInode) (ho:∀y∈l,TInode.ok y) (hl:l.length≤Bd):∃g:Int→Int,∀left,pcall env n 37 [.c .one [.sh true (.s 6 (l.map TInode.pv))],pvSV (.i .i64 left)] []=some ⟨pvSV (.i .i64 (g left)),[]⟩:=by
 refine Bqz fun left=> ?_
 obtain⟨m,rfl⟩:=AEz hn
 have hB:=ASz
 have hb:Bd=1048576:=rfl
 refine DYz (ADz (fn:=Tryz.f37) rfl rfl rfl (Nat.le_of_ble_eq_true rfl) ?_)
 unfold Tryz.f37
 simp only[go_sem,seval]
 refine Czz (fun h=> ?_) (fun h=> ?_)<;>simp only[go_sem,seval]
 ·exact⟨_,rfl⟩
 refine AFz (fun k σ=>∃v,∃j:Nat,j≤l.length∧k=l.length - j∧σ=slots 27 [(0,.c .one [.sh true (.s 6 (l.map TInode.pv))]),(1,.c .one [.sh false (.i .i64 v)]),(5,.c .one [.sh false (.i .i64 (j:Nat))])]) l.length (by omega) ?_ ?_
 ·simp only[go_sem,seval]
  exact⟨_,0,Nat.zero_le _,rfl,rfl⟩
 ·rintro k σ ⟨v,j,hj,rfl,rfl⟩
  by_cases hlt:j<l.length
  ·have h1:((j:Int)<(l.length:Int)):=by omega
   obtain⟨g,hv⟩:=QKz m (by omega) l[j] (ho _ (List.getElem_mem hlt))
   have hx:l[j]? =some l[j]:=List.getElem?_eq_getElem hlt
   generalize l[j]=x at hv hx
   try simp only[go_sem]at hv
   simp only[go_sem,seval,h1,hx,ACz hlt (by omega),hv]
   refine Czz (fun h=> ?_) (fun h=> ?_)<;>simp only[go_sem,seval,h1,hx,ACz hlt (by omega),hv]
   ·exact⟨_,rfl⟩
   ·exact⟨_,by omega,_,j+1,hlt,rfl,rfl⟩
  ·have h1:¬((j:Int)<(l.length:Int)):=by omega
   simp only[go_sem,seval,h1]
   exact⟨_,rfl⟩
theorem TYz (n:Nat) (hn:Big+5≤n) (x:TTab) (hx:x.ok):∃g:Int→Int,∀left,pcall env n 8 [.c .agg (x.pv.map AMz),pvSV (.i .i64 left)] []=some ⟨pvSV (.i .i64 (g left)),[]⟩:=by
 refine Bqz fun left=> ?_
 obtain⟨m,rfl⟩:=AEz hn
 obtain⟨g0,c0⟩:=Orz m (by omega) x.Inodes hx.Inodes.1 hx.Inodes.2
 try simp only[go_sem]at c0
 refine DYz (ADz (fn:=Tryz.f8) rfl rfl rfl (Nat.le_of_ble_eq_true rfl) ?_)
 unfold Tryz.f8
 simp only[go_sem,seval,c0]
 repeat' (first|exact⟨_,rfl⟩|(refine Czz (fun h=> ?_) (fun h=> ?_)<;>simp only[go_sem,seval,c0]))
theorem TXz (n:Nat) (hn:Big+6≤n) (x:TVol) (hx:x.ok):∃g:Int→Int,∀left,pcall env n 130 [.c .agg (x.pv.map AMz),pvSV (.i .i64 left)] []=some ⟨pvSV (.i .i64 (g left)),[]⟩:=by
 refine Bqz fun left=> ?_
 obtain⟨m,rfl⟩:=AEz hn
 obtain⟨g0,c0⟩:=TYz m (by omega) x.T hx.T
 try simp only[go_sem]at c0
 refine DYz (ADz (fn:=Tryz.f130) rfl rfl rfl (Nat.le_of_ble_eq_true rfl) ?_)
 unfold Tryz.f130
 simp only[go_sem,seval,c0]
 repeat' (first|exact⟨_,rfl⟩|(refine Czz (fun h=> ?_) (fun h=> ?_)<;>simp only[go_sem,seval,c0]))
theorem Rjz (n:Nat) (hn:Big+7≤n) (l:List TVol) (ho:∀y∈l,TVol.ok y) (hl:l.length≤Bd):∃g:Int→Int,∀left,pcall env n 60 [.c .one [.sh true (.s 6 (l.map TVol.pv))],pvSV (.i .i64 left)] []=some ⟨pvSV (.i .i64 (g left)),[]⟩:=by
 refine Bqz fun left=> ?_
 obtain⟨m,rfl⟩:=AEz hn
 have hB:=ASz
 have hb:Bd=1048576:=rfl
 refine DYz (ADz (fn:=Tryz.f60) rfl rfl rfl (Nat.le_of_ble_eq_true rfl) ?_)
 unfold Tryz.f60
 simp only[go_sem,seval]
 refine Czz (fun h=> ?_) (fun h=> ?_)<;>simp only[go_sem,seval]
 ·exact⟨_,rfl⟩
 refine AFz (fun k σ=>∃v,∃j:Nat,j≤l.length∧k=l.length - j∧σ=slots 27 [(0,.c .one [.sh true (.s 6 (l.map TVol.pv))]),(1,.c .one [.sh false (.i .i64 v)]),(5,.c .one [.sh false (.i .i64 (j:Nat))])]) l.length (by omega) ?_ ?_
 ·simp only[go_sem,seval]
  exact⟨_,0,Nat.zero_le _,rfl,rfl⟩
 ·rintro k σ ⟨v,j,hj,rfl,rfl⟩
  by_cases hlt:j<l.length
  ·have h1:((j:Int)<(l.length:Int)):=by omega
   obtain⟨g,hv⟩:=TXz m (by omega) l[j] (ho _ (List.getElem_mem hlt))
   have hx:l[j]? =some l[j]:=List.getElem?_eq_getElem hlt
   generalize l[j]=x at hv hx
   try simp only[go_sem]at hv
   simp only[go_sem,seval,h1,hx,ACz hlt (by omega),hv]
   refine Czz (fun h=> ?_) (fun h=> ?_)<;>simp only[go_sem,seval,h1,hx,ACz hlt (by omega),hv]
   ·exact⟨_,rfl⟩
   ·exact⟨_,by omega,_,j+1,hlt,rfl,rfl⟩
  ·have h1:¬((j:Int)<(l.length:Int)):=by omega
   simp only[go_sem,seval,h1]
   exact⟨_,rfl⟩
theorem VNz (n:Nat) (hn:Big+8≤n) (x:TFs) (hx:x.ok):∃g:Int→Int,∀left,pcall env n 17 [.c .agg (x.pv.map AMz),pvSV (.i .i64 left)] []=some ⟨pvSV (.i .i64 (g left)),[]⟩:=by
 refine Bqz fun left=> ?_
 obtain⟨m,rfl⟩:=AEz hn
 obtain⟨g0,c0⟩:=Rjz m (by omega) x.Vols hx.Vols.1 hx.Vols.2
 try simp only[go_sem]at c0
 refine DYz (ADz (fn:=Tryz.f17) rfl rfl rfl (Nat.le_of_ble_eq_true rfl) ?_)
 unfold Tryz.f17
 simp only[go_sem,seval,c0]
 repeat' (first|exact⟨_,rfl⟩|(refine Czz (fun h=> ?_) (fun h=> ?_)<;>simp only[go_sem,seval,c0]))
theorem Rhz (n:Nat) (hn:Big+1≤n) (x:TAttr) (hx:x.ok):pcall env n 162 [.c .agg (x.pv.map AMz)] []=some ⟨.c .agg (x.pv.map frC),[]⟩:=by
 obtain⟨m,rfl⟩:=AEz hn
 refine ANz (ADz (fn:=Tryz.f162) rfl rfl rfl (Nat.le_of_ble_eq_true rfl) ?_)
 unfold Tryz.f162
 simp only[go_sem,seval]
theorem QFz (n:Nat) (hn:Big+2≤n) (l:List TAttr) (ho:∀y∈l,TAttr.ok y) (hl:l.length≤Bd):pcall env n 79 [.c .one [.sh true (.s 2 (l.map TAttr.pv))]] []=some ⟨.c .one [.ow false 2 (l.map TAttr.pv)],[]⟩:=by
 obtain⟨m,rfl⟩:=AEz hn
 have hB:=ASz
 have hb:Bd=1048576:=rfl
 refine ANz (ADz (fn:=Tryz.f79) rfl rfl rfl (Nat.le_of_ble_eq_true rfl) ?_)
 unfold Tryz.f79
 simp only[go_sem,seval]
 refine BNz (by unfold LIM;omega) ?_
 simp only[go_sem,seval]
 refine AFz (fun k σ=>∃j:Nat,j≤l.length∧k=l.length - j∧σ=slots 23 [(0,.c .one [.sh true (.s 2 (l.map TAttr.pv))]),(3,.c .one [.ow false 2 (filling TAttr.pv l [.t ⟨#[]⟩,.t ⟨#[]⟩] j)]),(4,.c .one [.sh false (.i .i64 (j:Nat))])]) l.length (by omega) ?_ ?_
 ·simp only[go_sem,seval,FSz (pv:=TAttr.pv)]
  exact⟨0,Nat.zero_le _,rfl,rfl⟩
 ·rintro k σ ⟨j,hj,rfl,rfl⟩
  by_cases hlt:j<l.length
  ·have h1:((j:Int)<(l.length:Int)):=by omega
   have hv:=Rhz m (by omega) l[j] (ho _ (List.getElem_mem hlt))
   have hx:l[j]? =some l[j]:=List.getElem?_eq_getElem hlt
   generalize l[j]=x at hv hx
   try simp only[go_sem]at hv
   have hs:=GBz (pv:=TAttr.pv) (z:=[.t ⟨#[]⟩,.t ⟨#[]⟩]) hx
   simp only[go_sem]at hs
   simp only[go_sem,seval,h1,hx,ACz hlt (by omega),hv,GCz hlt,ECz hj,hs]
   exact⟨_,by omega,j+1,hlt,rfl,rfl⟩
  ·have h1:¬((j:Int)<(l.length:Int)):=by omega
   obtain rfl:j=l.length:=by omega
   simp only[go_sem,seval,h1,GDz]
theorem QEz (n:Nat) (hn:Big+1≤n) (l:List UInt8) (ho:∀y∈l,okB y) (hl:l.length≤Bd):pcall env n 32 [.c .one [.sh true (.s 1 (l.map bpv))]] []=some ⟨.c .one [.ow false 1 (l.map bpv)],[]⟩:=by
 obtain⟨m,rfl⟩:=AEz hn
 have hB:=ASz
 have hb:Bd=1048576:=rfl
 refine ANz (ADz (fn:=Tryz.f32) rfl rfl rfl (Nat.le_of_ble_eq_true rfl) ?_)
 unfold Tryz.f32
 simp only[go_sem,seval]
 refine BNz (by unfold LIM;omega) ?_
 simp only[go_sem,seval]
 refine AFz (fun k σ=>∃j:Nat,j≤l.length∧k=l.length - j∧σ=slots 22 [(0,.c .one [.sh true (.s 1 (l.map bpv))]),(3,.c .one [.ow false 1 (filling bpv l [.i .u8 0] j)]),(4,.c .one [.sh false (.i .i64 (j:Nat))])]) l.length (by omega) ?_ ?_
 ·simp only[go_sem,seval,FSz (pv:=bpv)]
  exact⟨0,Nat.zero_le _,rfl,rfl⟩
 ·rintro k σ ⟨j,hj,rfl,rfl⟩
  by_cases hlt:j<l.length
  ·have h1:((j:Int)<(l.length:Int)):=by omega
   have hx:l[j]? =some l[j]:=List.getElem?_eq_getElem hlt
   generalize l[j]=x at hx
   have hs:=GBz (pv:=bpv) (z:=[.i .u8 0]) hx
   simp only[go_sem]at hs
   simp only[go_sem,seval,h1,hx,ACz hlt (by omega),GCz hlt,ECz hj,hs]
   exact⟨_,by omega,j+1,hlt,rfl,rfl⟩
  ·have h1:¬((j:Int)<(l.length:Int)):=by omega
   obtain rfl:j=l.length:=by omega
   simp only[go_sem,seval,h1,GDz]
theorem TWz (n:Nat) (hn:Big+1≤n) (x:TEnt) (hx:x.ok):pcall env n 242 [.c .agg (x.pv.map AMz)] []=some ⟨.c .agg (x.pv.map frC),[]⟩:=by
 obtain⟨m,rfl⟩:=AEz hn
 refine ANz (ADz (fn:=Tryz.f242) rfl rfl rfl (Nat.le_of_ble_eq_true rfl) ?_)
 unfold Tryz.f242
 simp only[go_sem,seval]
theorem Rgz (n:Nat) (hn:Big+2≤n) (l:List TEnt) (ho:∀y∈l,TEnt.ok y) (hl:l.length≤Bd):pcall env n 194 [.c .one [.sh true (.s 2 (l.map TEnt.pv))]] []=some ⟨.c .one [.ow false 2 (l.map TEnt.pv)],[]⟩:=by
 obtain⟨m,rfl⟩:=AEz hn
 have hB:=ASz
 have hb:Bd=1048576:=rfl
 refine ANz (ADz (fn:=Tryz.f194) rfl rfl rfl (Nat.le_of_ble_eq_true rfl) ?_)
 unfold Tryz.f194
 simp only[go_sem,seval]
 refine BNz (by unfold LIM;omega) ?_
 simp only[go_sem,seval]
 refine AFz (fun k σ=>∃j:Nat,j≤l.length∧k=l.length - j∧σ=slots 23 [(0,.c .one [.sh true (.s 2 (l.map TEnt.pv))]),(3,.c .one [.ow false 2 (filling TEnt.pv l [.t ⟨#[]⟩,.i .i64 0] j)]),(4,.c .one [.sh false (.i .i64 (j:Nat))])]) l.length (by omega) ?_ ?_
 ·simp only[go_sem,seval,FSz (pv:=TEnt.pv)]
  exact⟨0,Nat.zero_le _,rfl,rfl⟩
 ·rintro k σ ⟨j,hj,rfl,rfl⟩
  by_cases hlt:j<l.length
  ·have h1:((j:Int)<(l.length:Int)):=by omega
   have hv:=TWz m (by omega) l[j] (ho _ (List.getElem_mem hlt))
   have hx:l[j]? =some l[j]:=List.getElem?_eq_getElem hlt
   generalize l[j]=x at hv hx
   try simp only[go_sem]at hv
   have hs:=GBz (pv:=TEnt.pv) (z:=[.t ⟨#[]⟩,.i .i64 0]) hx
   simp only[go_sem]at hs
   simp only[go_sem,seval,h1,hx,ACz hlt (by omega),hv,GCz hlt,ECz hj,hs]
   exact⟨_,by omega,j+1,hlt,rfl,rfl⟩
  ·have h1:¬((j:Int)<(l.length:Int)):=by omega
   obtain rfl:j=l.length:=by omega
   simp only[go_sem,seval,h1,GDz]
theorem QDz (n:Nat) (hn:Big+3≤n) (x:TInode) (hx:x.ok):pcall env n 115 [.c .agg (x.pv.map AMz)] []=some ⟨.c .agg (x.ov.map ovC),[]⟩:=by
 obtain⟨m,rfl⟩:=AEz hn
 have c0:=QEz m (by omega) x.Data hx.Data.1 hx.Data.2
 try simp only[go_sem]at c0
 have c1:=Rgz m (by omega) x.Ents hx.Ents.1 hx.Ents.2
 try simp only[go_sem]at c1
 have c2:=QFz m (by omega) x.Attrs hx.Attrs.1 hx.Attrs.2
 try simp only[go_sem]at c2
 refine ANz (ADz (fn:=Tryz.f115) rfl rfl rfl (Nat.le_of_ble_eq_true rfl) ?_)
 unfold Tryz.f115
 simp only[go_sem,seval,c0,c1,c2]
theorem Oqz (n:Nat) (hn:Big+4≤n) (l:List TInode) (ho:∀y∈l,TInode.ok y) (hl:l.length≤Bd):pcall env n 43 [.c .one [.sh true (.s 6 (l.map TInode.pv))]] []=some ⟨.c .one [.ow false 6 (l.map TInode.ov)],[]⟩:=by
 obtain⟨m,rfl⟩:=AEz hn
 have hB:=ASz
 have hb:Bd=1048576:=rfl
 refine ANz (ADz (fn:=Tryz.f43) rfl rfl rfl (Nat.le_of_ble_eq_true rfl) ?_)
 unfold Tryz.f43
 simp only[go_sem,seval]
 refine BNz (by unfold LIM;omega) ?_
 simp only[go_sem,seval]
 refine AFz (fun k σ=>∃j:Nat,j≤l.length∧k=l.length - j∧σ=slots 23 [(0,.c .one [.sh true (.s 6 (l.map TInode.pv))]),(3,.c .one [.ow false 6 (filling TInode.ov l [.i .i64 0,.i .i64 0,.i .i64 0,.o 1 [],.o 2 [],.o 2 []] j)]),(4,.c .one [.sh false (.i .i64 (j:Nat))])]) l.length (by omega) ?_ ?_
 ·simp only[go_sem,seval,FSz (pv:=TInode.ov)]
  exact⟨0,Nat.zero_le _,rfl,rfl⟩
 ·rintro k σ ⟨j,hj,rfl,rfl⟩
  by_cases hlt:j<l.length
  ·have h1:((j:Int)<(l.length:Int)):=by omega
   have hv:=QDz m (by omega) l[j] (ho _ (List.getElem_mem hlt))
   have hx:l[j]? =some l[j]:=List.getElem?_eq_getElem hlt
   generalize l[j]=x at hv hx
   try simp only[go_sem]at hv
   have hs:=GBz (pv:=TInode.ov) (z:=[.i .i64 0,.i .i64 0,.i .i64 0,.o 1 [],.o 2 [],.o 2 []]) hx
   simp only[go_sem]at hs
   simp only[go_sem,seval,h1,hx,ACz hlt (by omega),hv,GCz hlt,ECz hj,hs]
   exact⟨_,by omega,j+1,hlt,rfl,rfl⟩
  ·have h1:¬((j:Int)<(l.length:Int)):=by omega
   obtain rfl:j=l.length:=by omega
   simp only[go_sem,seval,h1,GDz]
theorem TVz (n:Nat) (hn:Big+5≤n) (x:TTab) (hx:x.ok):pcall env n 10 [.c .agg (x.pv.map AMz)] []=some ⟨.c .agg (x.ov.map ovC),[]⟩:=by
 obtain⟨m,rfl⟩:=AEz hn
 have c0:=Oqz m (by omega) x.Inodes hx.Inodes.1 hx.Inodes.2
 try simp only[go_sem]at c0
 refine ANz (ADz (fn:=Tryz.f10) rfl rfl rfl (Nat.le_of_ble_eq_true rfl) ?_)
 unfold Tryz.f10
 simp only[go_sem,seval,c0]
theorem TUz (n:Nat) (hn:Big+6≤n) (x:TVol) (hx:x.ok):pcall env n 138 [.c .agg (x.pv.map AMz)] []=some ⟨.c .agg (x.ov.map ovC),[]⟩:=by
 obtain⟨m,rfl⟩:=AEz hn
 have c0:=TVz m (by omega) x.T hx.T
 try simp only[go_sem]at c0
 refine ANz (ADz (fn:=Tryz.f138) rfl rfl rfl (Nat.le_of_ble_eq_true rfl) ?_)
 unfold Tryz.f138
 simp only[go_sem,seval,c0]
theorem Rfz (n:Nat) (hn:Big+7≤n) (l:List TVol) (ho:∀y∈l,TVol.ok y) (hl:l.length≤Bd):pcall env n 65 [.c .one [.sh true (.s 6 (l.map TVol.pv))]] []=some ⟨.c .one [.ow false 6 (l.map TVol.ov)],[]⟩:=by
 obtain⟨m,rfl⟩:=AEz hn
 have hB:=ASz
 have hb:Bd=1048576:=rfl
 refine ANz (ADz (fn:=Tryz.f65) rfl rfl rfl (Nat.le_of_ble_eq_true rfl) ?_)
 unfold Tryz.f65
 simp only[go_sem,seval]
 refine BNz (by unfold LIM;omega) ?_
 simp only[go_sem,seval]
 refine AFz (fun k σ=>∃j:Nat,j≤l.length∧k=l.length - j∧σ=slots 23 [(0,.c .one [.sh true (.s 6 (l.map TVol.pv))]),(3,.c .one [.ow false 6 (filling TVol.ov l [.i .i64 0,.t ⟨#[]⟩,.b false,.i .i64 0,.o 6 [],.i .i64 0] j)]),(4,.c .one [.sh false (.i .i64 (j:Nat))])]) l.length (by omega) ?_ ?_
 ·simp only[go_sem,seval,FSz (pv:=TVol.ov)]
  exact⟨0,Nat.zero_le _,rfl,rfl⟩
 ·rintro k σ ⟨j,hj,rfl,rfl⟩
  by_cases hlt:j<l.length
  ·have h1:((j:Int)<(l.length:Int)):=by omega
   have hv:=TUz m (by omega) l[j] (ho _ (List.getElem_mem hlt))
   have hx:l[j]? =some l[j]:=List.getElem?_eq_getElem hlt
   generalize l[j]=x at hv hx
   try simp only[go_sem]at hv
   have hs:=GBz (pv:=TVol.ov) (z:=[.i .i64 0,.t ⟨#[]⟩,.b false,.i .i64 0,.o 6 [],.i .i64 0]) hx
   simp only[go_sem]at hs
   simp only[go_sem,seval,h1,hx,ACz hlt (by omega),hv,GCz hlt,ECz hj,hs]
   exact⟨_,by omega,j+1,hlt,rfl,rfl⟩
  ·have h1:¬((j:Int)<(l.length:Int)):=by omega
   obtain rfl:j=l.length:=by omega
   simp only[go_sem,seval,h1,GDz]
theorem VMz (n:Nat) (hn:Big+8≤n) (x:TFs) (hx:x.ok):pcall env n 19 [.c .agg (x.pv.map AMz)] []=some ⟨.c .agg (x.ov.map ovC),[]⟩:=by
 obtain⟨m,rfl⟩:=AEz hn
 have c0:=Rfz m (by omega) x.Vols hx.Vols.1 hx.Vols.2
 try simp only[go_sem]at c0
 refine ANz (ADz (fn:=Tryz.f19) rfl rfl rfl (Nat.le_of_ble_eq_true rfl) ?_)
 unfold Tryz.f19
 simp only[go_sem,seval,c0]
end Go.Proofs.YtblelojdboefjaaGreatDoor.R
namespace Go.Proofs.YtblelojdboefjaaGreatDoor.R
open Go
theorem Fuz (n:Nat) (hn:Big+1≤n) (a b c:Int):pcall env n 139 [pvSV (.i .i64 a),pvSV (.i .i64 b),pvSV (.i .i64 c)] []=some ⟨pvSV (.b (decide (a≥b)&&decide (a≤c))),[]⟩:=by
 obtain⟨m,rfl⟩:=AEz hn
 refine ANz (ADz (fn:=Tryz.f139) rfl rfl rfl (Nat.le_of_ble_eq_true rfl) ?_)
 unfold Tryz.f139
 by_cases h:a≥b
 ·simp only[go_sem,seval,h]
 ·simp only[go_sem,seval,h]
theorem E2z (n:Nat) (hn:Big+1≤n) (a b c:Int):pcall env n 131 [pvSV (.i .i64 a),pvSV (.i .i64 b),pvSV (.i .i64 c)] []=some ⟨pvSV (.b (decide (a≥b)&&decide (a≤c))),[]⟩:=by
 obtain⟨m,rfl⟩:=AEz hn
 refine ANz (ADz (fn:=Tryz.f131) rfl rfl rfl (Nat.le_of_ble_eq_true rfl) ?_)
 unfold Tryz.f131
 by_cases h:a≥b
 ·simp only[go_sem,seval,h]
 ·simp only[go_sem,seval,h]
end Go.Proofs.YtblelojdboefjaaGreatDoor.R
namespace Go.Proofs.YtblelojdboefjaaGreatDoor.R
open Go
def badC (n:Int):Bool:=(decide (n<97)||decide (n>122))&&(decide (n<48)||decide (n>57))&&(n !=95)&&(n !=45)&&(n !=46)
def Fsz (l:List UInt8):Bool:=decide (1≤l.length)&&decide (l.length≤14)&& !(l==[46])&& !(l==[46,46])
def BAz (l:List UInt8):Bool:=l.all (fun c=> !badC (c.toNat:Int))&&Fsz l
def BYz (s:ByteArray):Bool:=BAz s.data.toList
theorem L6z {l:List UInt8} {j:Nat} {c:UInt8} (h:l[j]? =some c) (hb:badC (c.toNat:Int)=true):BAz l=false:=by
 unfold BAz
 have:l.all (fun c=> !badC (c.toNat:Int))=false:=by
  rw[List.all_eq_false]
  exact⟨c,List.mem_of_getElem? h,by simp[hb]⟩
 rw[this,Bool.false_and]
theorem L7z {l:List UInt8} (h:∀(i:Nat) (c:UInt8),l[i]? =some c→badC (c.toNat:Int)=false):BAz l=Fsz l:=by
 unfold BAz
 have:l.all (fun c=> !badC (c.toNat:Int))=true:=by
  rw[List.all_eq_true]
  intro c hc
  obtain⟨i,hi⟩:=List.getElem?_of_mem hc
  simp[h i c hi]
 rw[this,Bool.true_and]
theorem FDz (n:Nat) (hn:Big+1≤n) (s:ByteArray) (hs:s.size≤Bd):pcall env n 100 [pvSV (.t s)] []=some ⟨pvSV (.b (BYz s)),[]⟩:=by
 obtain⟨m,rfl⟩:=AEz hn
 have hB:=ASz
 have hbd:Bd=1048576:=rfl
 obtain⟨⟨l⟩⟩:=s
 have hl:l.length≤Bd:=hs
 unfold BYz
 refine ANz (ADz (fn:=Tryz.f100) rfl rfl rfl (Nat.le_of_ble_eq_true rfl) ?_)
 unfold Tryz.f100
 simp only[go_sem,seval]
 refine AFz (fun k σ=>∃j:Nat,j≤l.length∧k=l.length - j∧(∀(i:Nat) (c:UInt8),i<j→l[i]? =some c→badC (c.toNat:Int)=false)∧σ=slots 56 [(0,.c .one [.sh false (.t ⟨⟨l⟩⟩)]),(6,.c .one [.sh false (.i .i64 (l.length:Nat))]),(7,.c .one [.sh false (.i .i64 (j:Nat))])]) l.length (by omega) ?_ ?_
 ·simp only[go_sem,seval]
  exact⟨0,Nat.zero_le _,rfl,fun i c hi=>absurd hi (Nat.not_lt_zero _),rfl⟩
 ·rintro k σ ⟨j,hj,rfl,hp,rfl⟩
  by_cases hlt:j<l.length
  ·have h1:((j:Int)<(l.length:Int)):=by omega
   have hx:l[j]? =some l[j]:=List.getElem?_eq_getElem hlt
   generalize l[j]=c at hx
   by_cases hbad:badC (c.toNat:Int)=true
   ·rw[L6z hx hbad]
    have hcc:=hbad
    unfold badC at hcc
    simp only[Bool.and_eq_true,Bool.or_eq_true,decide_eq_true_eq,bne_iff_ne]at hcc
    obtain⟨⟨⟨⟨ha,hb⟩,h95⟩,h45⟩,h46⟩:=hcc
    have e95:=bne_iff_ne.2 h95
    have e45:=bne_iff_ne.2 h45
    have e46:=bne_iff_ne.2 h46
    rcases(show((c.toNat:Int)<48)∨(57<(c.toNat:Int)∧(c.toNat:Int)<97)∨(122<(c.toNat:Int))by omega)with hc|hc|hc
    ·have f0:(c.toNat:Int)<97:=by omega
     have f1:(c.toNat:Int)<48:=by omega
     simp only[go_sem,seval,h1,hx,e95,e45,e46,f0,f1]
    ·have f0:(c.toNat:Int)<97:=by omega
     have f1:¬(c.toNat:Int)<48:=by omega
     have f2:(c.toNat:Int)>57:=by omega
     simp only[go_sem,seval,h1,hx,e95,e45,e46,f0,f1,f2]
    ·have f0:¬(c.toNat:Int)<97:=by omega
     have f1:(c.toNat:Int)>122:=by omega
     have f2:¬(c.toNat:Int)<48:=by omega
     have f3:(c.toNat:Int)>57:=by omega
     simp only[go_sem,seval,h1,hx,e95,e45,e46,f0,f1,f2,f3]
   ·have hcc:badC (c.toNat:Int)=false:=by simpa using hbad
    have hp':∀(i:Nat) (d:UInt8),i<j+1→l[i]? =some d→badC (d.toNat:Int)=false:=fun i d hi hd=>by
     rcases Nat.lt_succ_iff_lt_or_eq.1 hi with h|h
     ·exact hp i d h hd
     ·subst h;rw[hx]at hd;injection hd with hd;subst hd;exact hcc
    have hg:(97≤(c.toNat:Int)∧(c.toNat:Int)≤122)∨(48≤(c.toNat:Int)∧(c.toNat:Int)≤57)∨(c.toNat:Int)=95∨(c.toNat:Int)=45∨(c.toNat:Int)=46:=by
     unfold badC at hcc
     simp only[Bool.and_eq_false_iff,Bool.or_eq_false_iff,decide_eq_false_iff_not,bne_eq_false_iff_eq]at hcc
     omega
    rcases hg with hc|hc|hc|hc|hc
    ·have f0:¬(c.toNat:Int)<97:=by omega
     have f1:¬(c.toNat:Int)>122:=by omega
     simp only[go_sem,seval,h1,hx,ACz hlt (by omega),f0,f1]
     exact⟨_,by omega,j+1,hlt,rfl,hp',rfl⟩
    ·have f0:(c.toNat:Int)<97:=by omega
     have f1:¬(c.toNat:Int)<48:=by omega
     have f2:¬(c.toNat:Int)>57:=by omega
     simp only[go_sem,seval,h1,hx,ACz hlt (by omega),f0,f1,f2]
     exact⟨_,by omega,j+1,hlt,rfl,hp',rfl⟩
    ·have f0:(c.toNat:Int)<97:=by omega
     have f1:¬(c.toNat:Int)<48:=by omega
     have f2:(c.toNat:Int)>57:=by omega
     have b0:((c.toNat:Int) !=95)=false:=by simp[hc]
     simp only[go_sem,seval,h1,hx,ACz hlt (by omega),f0,f1,f2,b0]
     exact⟨_,by omega,j+1,hlt,rfl,hp',rfl⟩
    ·have f0:(c.toNat:Int)<97:=by omega
     have f1:(c.toNat:Int)<48:=by omega
     have b0:((c.toNat:Int) !=95)=true:=by simp;omega
     have b1:((c.toNat:Int) !=45)=false:=by simp[hc]
     simp only[go_sem,seval,h1,hx,ACz hlt (by omega),f0,f1,b0,b1]
     exact⟨_,by omega,j+1,hlt,rfl,hp',rfl⟩
    ·have f0:(c.toNat:Int)<97:=by omega
     have f1:(c.toNat:Int)<48:=by omega
     have b0:((c.toNat:Int) !=95)=true:=by simp;omega
     have b1:((c.toNat:Int) !=45)=true:=by simp;omega
     have b2:((c.toNat:Int) !=46)=false:=by simp[hc]
     simp only[go_sem,seval,h1,hx,ACz hlt (by omega),f0,f1,b0,b1,b2]
     exact⟨_,by omega,j+1,hlt,rfl,hp',rfl⟩
  ·have h1:¬((j:Int)<(l.length:Int)):=by omega
   obtain rfl:j=l.length:=by omega
   rw[L7z fun i c hi=>hp i c (List.getElem?_eq_some_iff.1 hi).1 hi]
   unfold Fsz
   by_cases c1:1≤l.length
   ·have i1:((l.length:Int)≥1):=by omega
    by_cases c2:l.length≤14
    ·have i2:((l.length:Int)≤14):=by omega
     cases c3:(l==[46])
     ·cases c4:(l==[46,46])
      ·simp only[go_sem,seval,h1,i1,i2,c1,c2,c3,c4]
      ·simp only[go_sem,seval,h1,i1,i2,c1,c2,c3,c4]
     ·simp only[go_sem,seval,h1,i1,i2,c1,c2,c3]
    ·have i2:¬((l.length:Int)≤14):=by omega
     simp only[go_sem,seval,h1,i1,i2,c1,c2]
   ·have i1:¬((l.length:Int)≥1):=by omega
    simp only[go_sem,seval,h1,i1,c1]
theorem D7z (n:Nat) (hn:Big+2≤n) (s:ByteArray) (hs:s.size≤Bd):pcall env n 94 [pvSV (.t s)] []=some ⟨pvSV (.b (BYz s)),[]⟩:=by
 obtain⟨m,rfl⟩:=AEz hn
 have hB:=ASz
 have hbd:Bd=1048576:=rfl
 obtain⟨⟨l⟩⟩:=s
 have hl:l.length≤Bd:=hs
 unfold BYz
 have hc1:=fun a b c=>E2z m (deep hn (by decide)) a b c
 simp only[go_sem]at hc1
 refine ANz (ADz (fn:=Tryz.f94) rfl rfl rfl (Nat.le_of_ble_eq_true rfl) ?_)
 unfold Tryz.f94
 simp only[go_sem,seval]
 refine AFz (fun k σ=>∃j:Nat,j≤l.length∧k=l.length - j∧(∀(i:Nat) (c:UInt8),i<j→l[i]? =some c→badC (c.toNat:Int)=false)∧σ=slots 46 [(0,.c .one [.sh false (.t ⟨⟨l⟩⟩)]),(3,.c .one [.sh false (.i .i64 (j:Nat))])]) l.length (by omega) ?_ ?_
 ·simp only[go_sem,seval]
  exact⟨0,Nat.zero_le _,rfl,fun i c hi=>absurd hi (Nat.not_lt_zero _),rfl⟩
 ·rintro k σ ⟨j,hj,rfl,hp,rfl⟩
  by_cases hlt:j<l.length
  ·have h1:((j:Int)<(l.length:Int)):=by omega
   have hx:l[j]? =some l[j]:=List.getElem?_eq_getElem hlt
   generalize l[j]=c at hx
   have hw:IntKind.i64.wrap (c.toNat:Int)=(c.toNat:Int):=ARz (by omega) (by have:=c.toNat_lt;omega)
   by_cases hbad:badC (c.toNat:Int)=true
   ·rw[L6z hx hbad]
    have hcc:=hbad
    unfold badC at hcc
    simp only[Bool.and_eq_true,Bool.or_eq_true,decide_eq_true_eq,bne_iff_ne]at hcc
    obtain⟨⟨⟨⟨ha,hb⟩,h95⟩,h45⟩,h46⟩:=hcc
    have e95:=bne_iff_ne.2 h95
    have e45:=bne_iff_ne.2 h45
    have e46:=bne_iff_ne.2 h46
    rcases(show((c.toNat:Int)<48)∨(57<(c.toNat:Int)∧(c.toNat:Int)<97)∨(122<(c.toNat:Int))by omega)with hc|hc|hc
    ·have f0:¬(c.toNat:Int)≥97:=by omega
     have f1:¬(c.toNat:Int)≥48:=by omega
     simp only[go_sem,seval,h1,hx,hw,hc1,e95,e45,e46,f0,f1]
    ·have f0:¬(c.toNat:Int)≥97:=by omega
     have f1:(c.toNat:Int)≥48:=by omega
     have f2:¬(c.toNat:Int)≤57:=by omega
     simp only[go_sem,seval,h1,hx,hw,hc1,e95,e45,e46,f0,f1,f2]
    ·have f0:(c.toNat:Int)≥97:=by omega
     have f1:¬(c.toNat:Int)≤122:=by omega
     have f2:(c.toNat:Int)≥48:=by omega
     have f3:¬(c.toNat:Int)≤57:=by omega
     simp only[go_sem,seval,h1,hx,hw,hc1,e95,e45,e46,f0,f1,f2,f3]
   ·have hcc:badC (c.toNat:Int)=false:=by simpa using hbad
    have hp':∀(i:Nat) (d:UInt8),i<j+1→l[i]? =some d→badC (d.toNat:Int)=false:=fun i d hi hd=>by
     rcases Nat.lt_succ_iff_lt_or_eq.1 hi with h|h
     ·exact hp i d h hd
     ·subst h;rw[hx]at hd;injection hd with hd;subst hd;exact hcc
    have hg:(97≤(c.toNat:Int)∧(c.toNat:Int)≤122)∨(48≤(c.toNat:Int)∧(c.toNat:Int)≤57)∨(c.toNat:Int)=95∨(c.toNat:Int)=45∨(c.toNat:Int)=46:=by
     unfold badC at hcc
     simp only[Bool.and_eq_false_iff,Bool.or_eq_false_iff,decide_eq_false_iff_not,bne_eq_false_iff_eq]at hcc
     omega
    rcases hg with hc|hc|hc|hc|hc
    ·have f0:(c.toNat:Int)≥97:=by omega
     have f1:(c.toNat:Int)≤122:=by omega
     simp only[go_sem,seval,h1,hx,hw,hc1,ACz hlt (by omega),f0,f1]
     exact⟨_,by omega,j+1,hlt,rfl,hp',rfl⟩
    ·have f0:¬(c.toNat:Int)≥97:=by omega
     have f1:(c.toNat:Int)≥48:=by omega
     have f2:(c.toNat:Int)≤57:=by omega
     simp only[go_sem,seval,h1,hx,hw,hc1,ACz hlt (by omega),f0,f1,f2]
     exact⟨_,by omega,j+1,hlt,rfl,hp',rfl⟩
    ·have f0:¬(c.toNat:Int)≥97:=by omega
     have f1:(c.toNat:Int)≥48:=by omega
     have f2:¬(c.toNat:Int)≤57:=by omega
     have b0:((c.toNat:Int) !=95)=false:=by simp[hc]
     simp only[go_sem,seval,h1,hx,hw,hc1,ACz hlt (by omega),f0,f1,f2,b0]
     exact⟨_,by omega,j+1,hlt,rfl,hp',rfl⟩
    ·have f0:¬(c.toNat:Int)≥97:=by omega
     have f1:¬(c.toNat:Int)≥48:=by omega
     have b0:((c.toNat:Int) !=95)=true:=by simp;omega
     have b1:((c.toNat:Int) !=45)=false:=by simp[hc]
     simp only[go_sem,seval,h1,hx,hw,hc1,ACz hlt (by omega),f0,f1,b0,b1]
     exact⟨_,by omega,j+1,hlt,rfl,hp',rfl⟩
    ·have f0:¬(c.toNat:Int)≥97:=by omega
     have f1:¬(c.toNat:Int)≥48:=by omega
     have b0:((c.toNat:Int) !=95)=true:=by simp;omega
     have b1:((c.toNat:Int) !=45)=true:=by simp;omega
     have b2:((c.toNat:Int) !=46)=false:=by simp[hc]
     simp only[go_sem,seval,h1,hx,hw,hc1,ACz hlt (by omega),f0,f1,b0,b1,b2]
     exact⟨_,by omega,j+1,hlt,rfl,hp',rfl⟩
  ·have h1:¬((j:Int)<(l.length:Int)):=by omega
   obtain rfl:j=l.length:=by omega
   rw[L7z fun i c hi=>hp i c (List.getElem?_eq_some_iff.1 hi).1 hi]
   unfold Fsz
   by_cases c1:1≤l.length
   ·have i1:((l.length:Int)≥1):=by omega
    by_cases c2:l.length≤14
    ·have i2:((l.length:Int)≤14):=by omega
     cases c3:(l==[46])
     ·cases c4:(l==[46,46])
      ·simp only[go_sem,seval,h1,hc1,i1,i2,c1,c2,c3,c4]
      ·simp only[go_sem,seval,h1,hc1,i1,i2,c1,c2,c3,c4]
     ·simp only[go_sem,seval,h1,hc1,i1,i2,c1,c2,c3]
    ·have i2:¬((l.length:Int)≤14):=by omega
     simp only[go_sem,seval,h1,hc1,i1,i2,c1,c2]
   ·have i1:¬((l.length:Int)≥1):=by omega
    simp only[go_sem,seval,h1,hc1,i1,c1]
end Go.Proofs.YtblelojdboefjaaGreatDoor.R
namespace Go.Proofs.YtblelojdboefjaaGreatDoor.R
open Go
def AUz:List UInt8→List (List UInt8)
 |[]=>[[]]
 |c::l=>if c=47 then[]::AUz l else match AUz l with
  |p::ps=>(c::p)::ps
  |[]=>[[c]]
def ppv (p:List UInt8):List PV:=[.t ⟨⟨p⟩⟩]
instance:FlatF ppv:= .mk' fun _=>rfl
instance:ScalF ppv:=⟨fun _=>rfl⟩
attribute [go_sem] ppv
theorem Gpz:∀l:List UInt8,(l.count 47=0∧Lib.indexByte l 47= -1∧AUz l=[l])∨∃a b,l=a++47::b∧Lib.indexByte l 47=(a.length:Nat)∧l.count 47=b.count 47+1∧AUz l=a::AUz b
 |[]=> .inl ⟨rfl,rfl,rfl⟩
 |c::l=>by
  by_cases hc:c=47
  ·subst hc
   exact .inr ⟨[],l,rfl,by simp[Lib.indexByte],by simp,by simp[AUz]⟩
  ·have hb:(c==47)=false:=by simpa using hc
   rcases Gpz l with⟨h1,h2,h3⟩|⟨a,b,h1,h2,h3,h4⟩
   ·refine .inl ⟨by rw[List.count_cons,h1,hb];rfl,?_,?_⟩
    ·simp[Lib.indexByte,hb,h2]
    ·simp[AUz,hc,h3]
   ·refine .inr ⟨c::a,b,by rw[h1];rfl,?_,?_,?_⟩
    ·have:¬((a.length:Int)= -1):=by omega
     simp[Lib.indexByte,hb,h2,this]
    ·rw[List.count_cons,h3,hb];rfl
    ·simp[AUz,hc,h4]
theorem EGz:∀l:List UInt8,(AUz l).length=l.count 47+1
 |[]=>rfl
 |c::l=>by
  have ih:=EGz l
  by_cases hc:c=47
  ·subst hc;simp[AUz,ih]
  ·have hb:(c==47)=false:=by simpa using hc
   rw[List.count_cons,hb]
   simp only[AUz,if_neg hc]
   cases h:AUz l with
   |nil=>rw[h]at ih;simp at ih
   |cons p ps=>rw[h]at ih;simpa using ih
theorem LJz (n:Nat) (hn:Big+2≤n) (l:List UInt8):pcall env n 324 [pvSV (.t ⟨⟨l⟩⟩),pvSV (.i .u8 47)] []=some ⟨pvSV (.i .i64 (Lib.indexByte l 47)),[]⟩:=by
 obtain⟨m,rfl⟩:=AEz hn
 obtain⟨k,rfl⟩:=AEz (n:=m) (d:=1) (deep hn (by decide))
 have hc:pcall env (k+1) 330 [.c .one [.sh false (.t ⟨⟨l⟩⟩)],.c .one [.sh false (.i .u8 47)]] []=some ⟨.c .one [.sh false (.i .i64 (Lib.indexByte l 47))],[]⟩:=rfl
 refine ANz (ADz (fn:=Tryz.f324) rfl rfl rfl (Nat.le_of_ble_eq_true rfl) ?_)
 unfold Tryz.f324
 simp only[go_sem,seval,hc]
theorem QQz (n:Nat) (hn:Big+3≤n) (l:List UInt8):pcall env n 317 [pvSV (.t ⟨⟨l⟩⟩),pvSV (.t ⟨⟨[47]⟩⟩)] []=some ⟨pvSV (.i .i64 (Lib.indexByte l 47)),[]⟩:=by
 obtain⟨m,rfl⟩:=AEz hn
 have hc:=LJz m (deep hn (by decide)) l
 simp only[go_sem]at hc
 by_cases hb:l=[47]
 ·subst hb
  refine ANz (ADz (fn:=Tryz.f317) rfl rfl rfl (Nat.le_of_ble_eq_true rfl) ?_)
  unfold Tryz.f317
  simp only[go_sem,seval,hc,beq_self_eq_true]
  simp[Lib.indexByte]
 ·have hb':([47]==l)=false:=by simpa using fun h=>hb (Eq.symm h)
  refine ANz (ADz (fn:=Tryz.f317) rfl rfl rfl (Nat.le_of_ble_eq_true rfl) ?_)
  unfold Tryz.f317
  simp only[go_sem,seval,hc,hb']
theorem UNz (n:Nat) (hn:Big+4≤n) (l:List UInt8):pcall env n 306 [pvSV (.t ⟨⟨l⟩⟩),pvSV (.t ⟨⟨[47]⟩⟩)] []=some ⟨pvSV (.i .i64 (Lib.indexByte l 47)),[]⟩:=by
 obtain⟨m,rfl⟩:=AEz hn
 have hc:=QQz m (deep hn (by decide)) l
 simp only[go_sem]at hc
 refine ANz (ADz (fn:=Tryz.f306) rfl rfl rfl (Nat.le_of_ble_eq_true rfl) ?_)
 unfold Tryz.f306
 simp only[go_sem,seval,hc]
theorem Uez (n:Nat) (hn:Big+2≤n) (l:List UInt8):pcall env n 305 [pvSV (.t ⟨⟨l⟩⟩),pvSV (.t ⟨⟨[47]⟩⟩)] []=some ⟨pvSV (.i .i64 (l.count 47:Nat)),[]⟩:=by
 obtain⟨m,rfl⟩:=AEz hn
 obtain⟨k,rfl⟩:=AEz (n:=m) (d:=1) (deep hn (by decide))
 have hc:pcall env (k+1) 316 [.c .one [.sh false (.t ⟨⟨l⟩⟩)],.c .one [.sh false (.i .u8 47)]] []=some ⟨.c .one [.sh false (.i .i64 (l.count 47:Nat))],[]⟩:=rfl
 refine ANz (ADz (fn:=Tryz.f305) rfl rfl rfl (Nat.le_of_ble_eq_true rfl) ?_)
 unfold Tryz.f305
 simp only[go_sem,seval,hc]
theorem O8z (n:Nat) (hn:Big+5≤n) (l:List UInt8) (hl:l.length≤Bd):pcall env n 285 [pvSV (.t ⟨⟨l⟩⟩),pvSV (.t ⟨⟨[47]⟩⟩),pvSV (.i .i64 0),pvSV (.i .i64 (-1))] []=some ⟨.c .one [.sh false (.s 1 ((AUz l).map ppv))],[]⟩:=by
 obtain⟨m,rfl⟩:=AEz hn
 have hB:=ASz
 have hbd:Bd=1048576:=rfl
 have hcl:l.count 47≤l.length:=List.count_le_length
 have hc:=Uez m (deep hn (by decide)) l
 have hi:=fun r=>UNz m (deep hn (by decide)) r
 simp only[go_sem]at hc hi
 obtain⟨c1,hc1⟩:∃c1,c1=l.count 47+1:=⟨_,rfl⟩
 have w1:IntKind.i64.wrap ((l.count 47:Int)+1)=(c1:Int):=by rw[ARz (by omega) (by omega)];omega
 obtain⟨c2,hc2⟩:∃c2,c2=l.length+1:=⟨_,rfl⟩
 have w2:IntKind.i64.wrap ((l.length:Int)+1)=(c2:Int):=by rw[ARz (by omega) (by omega)];omega
 have w3:IntKind.i64.wrap ((c1:Int) - 1)=((l.count 47:Nat):Int):=by rw[ARz (by omega) (by omega)];omega
 refine ANz (ADz (fn:=Tryz.f285) rfl rfl rfl (Nat.le_of_ble_eq_true rfl) ?_)
 unfold Tryz.f285
 have hmv:(if(c2:Int)<(c1:Int)then(c2:Int)else(c1:Int))=(c1:Int):=if_neg (by omega)
 simp only[go_sem,seval,hc,w1,w2,hmv]
 refine BNz (by unfold LIM;omega) ?_
 simp only[go_sem,seval,w3]
 refine AFz (fun k σ=>∃(j:Nat) (r:List UInt8) (dn:List (List UInt8)),k=l.count 47 - j∧j≤l.count 47∧dn.length=j∧r.count 47+j=l.count 47∧r.length≤l.length∧dn++AUz r=AUz l∧σ=slots 66 [(0,.c .one [.sh false (.t ⟨⟨r⟩⟩)]),(1,.c .one [.sh false (.t ⟨⟨[47]⟩⟩)]),(2,.c .one [.sh false (.i .i64 0)]),(3,.c .one [.sh false (.i .i64 (l.count 47:Nat))]),(9,.c .one [.ow false 1 (dn.map ppv++List.replicate (c1 - j) [.t ⟨⟨[]⟩⟩])]),(10,.c .one [.sh false (.i .i64 (j:Nat))])]) (l.count 47) (by omega) ?_ ?_
 ·simp only[go_sem,seval]
  exact⟨0,l,[],rfl,Nat.zero_le _,rfl,rfl,Nat.le_refl _,rfl,rfl⟩
 ·rintro k σ ⟨j,r,dn,rfl,hj,hd,hr,hrl,hs,rfl⟩
  have hget:(dn.map ppv++List.replicate (c1 - j) [.t ⟨⟨[]⟩⟩])[j]? =some [.t ⟨⟨[]⟩⟩]:=by
   rw[List.getElem?_append_right (by simp;omega)]
   simp only[List.length_map,List.getElem?_replicate]
   rw[if_pos (by omega)]
  have hset:∀p:List UInt8,(dn.map ppv++List.replicate (c1 - j) [PV.t ⟨⟨[]⟩⟩]).set j [PV.t ⟨⟨p⟩⟩]=(dn++[p]).map ppv++List.replicate (c1 - (j+1)) [.t ⟨⟨[]⟩⟩]:=fun p=>by
   rw[List.set_append_right _ _ (by simp;omega)]
   have e:c1 - j=(c1 - (j+1))+1:=by omega
   have e2:j - (List.map ppv dn).length=0:=by simp;omega
   rw[e,List.replicate_succ,e2,List.set_cons_zero,List.map_append,List.append_assoc]
   rfl
  by_cases hlt:j<l.count 47
  ·have h1:((j:Int)<(l.count 47:Int)):=by omega
   rcases Gpz r with⟨e1,e2,e3⟩|⟨a,b,rfl,e2,e3,e4⟩
   ·omega
   ·have h2:¬((a.length:Int)<0):=by omega
    have w4:IntKind.i64.wrap (a.length:Int)=(a.length:Int):=ARz (by omega) (by simp only[List.length_append,List.length_cons]at hrl;omega)
    have w5:IntKind.i64.wrap ((a.length:Int)+1)=((a.length+1:Nat):Int):=by rw[ARz (by omega) (by simp only[List.length_append,List.length_cons]at hrl;omega)];omega
    simp only[go_sem,seval,h1,hi,e2,h2,hget,hset,Int.add_zero,w4,w5,ACz hlt (by omega)]
    have t1:List.take a.length (a++47::b)=a:=List.take_left
    have t2:List.take (a.length+(b.length+1)) (a++47::b)=a++47::b:=List.take_of_length_le (by simp)
    have t3:List.drop (a.length+1) (a++47::b)=b:=by rw[←List.drop_drop,List.drop_left];rfl
    repeat (first|(refine BNz (by omega) ?_;simp only[go_sem,seval,hi,e2,h2,hget,hset,Int.add_zero,w4,w5,t1,t2,t3,ACz hlt (by omega)])|(refine EDz (by omega) ?_;simp only[go_sem,seval,hi,e2,h2,hget,hset,Int.add_zero,w4,w5,t1,t2,t3,ACz hlt (by omega)]))
    simp only[List.length_append,List.length_cons]at hrl
    exact⟨_,by omega,j+1,b,dn++[a],rfl,hlt,by simp[hd],by omega,by omega,by rw[←hs,e4,List.append_assoc];rfl,rfl⟩
  ·have h1:¬((j:Int)<(l.count 47:Int)):=by omega
   have ej:j=l.count 47:=by omega
   have w6:IntKind.i64.wrap ((j:Int)+1)=((j+1:Nat):Int):=by rw[ARz (by omega) (by omega)];omega
   have hfin:List.take (j+1) (List.map ppv (dn++[r])++List.replicate (c1 - (j+1)) [PV.t ⟨⟨[]⟩⟩])=(AUz l).map ppv:=by
    have e0:c1 - (j+1)=0:=by omega
    rcases Gpz r with⟨e1,e2,e3⟩|⟨a,b,rfl,e2,e3,e4⟩
    ·rw[e0,List.replicate_zero,List.append_nil,List.take_of_length_le (by simp[hd]),←hs,e3]
    ·omega
   simp only[go_sem,seval,h1,hget,hset,w6]
   refine BNz (by omega) ?_
   have q1:(List.map ppv dn).length=j:=by simp[hd]
   simp only[go_sem,seval,h1,hget,hset,w6,true_or,hfin]
end Go.Proofs.YtblelojdboefjaaGreatDoor.R
namespace Go.Proofs.YtblelojdboefjaaGreatDoor.R
open Go
@[go_sem] theorem AF8z:((0:Int)≤1)=True:=by simp
@[go_sem] theorem ACmz:Int.toNat 1=1:=rfl
@[go_sem] theorem ACnz:Int.toNat 0=0:=rfl
attribute [go_sem] List.take_length
def okP (p:List UInt8):Prop:=p.length≤Bd
theorem Tez (n:Nat) (hn:Big+6≤n) (l:List UInt8) (hl:l.length≤Bd):pcall env n 247 [pvSV (.t ⟨⟨l⟩⟩),pvSV (.t ⟨⟨[47]⟩⟩)] []=some ⟨.c .one [.sh false (.s 1 ((AUz l).map ppv))],[]⟩:=by
 obtain⟨m,rfl⟩:=AEz hn
 have hc:=O8z m (deep hn (by decide)) l hl
 simp only[go_sem]at hc
 refine ANz (ADz (fn:=Tryz.f247) rfl rfl rfl (Nat.le_of_ble_eq_true rfl) ?_)
 unfold Tryz.f247
 simp only[go_sem,seval,hc]
theorem IDz:∀(l:List UInt8) (p:List UInt8),p∈AUz l→p.length≤l.length
 |[],p,h=>by simp[AUz]at h;subst h;simp
 |c::l,p,h=>by
  by_cases hc:c=47
  ·simp only[AUz,if_pos hc]at h
   rcases List.mem_cons.1 h with h|h
   ·subst h;simp
   ·have:=IDz l p h;simp only[List.length_cons];omega
  ·simp only[AUz,if_neg hc]at h
   have ih:=IDz l
   cases hs:AUz l with
   |nil=>have:=EGz l;rw[hs]at this;simp at this
   |cons q qs=>
    rw[hs]at h ih
    rcases List.mem_cons.1 h with h|h
    ·subst h;have:=ih q (by simp);simp only[List.length_cons];omega
    ·have:=ih p (by simp[h]);simp only[List.length_cons];omega
theorem Qaz (n:Nat) (hn:Big+2≤n) (p:List UInt8) (hp:okP p):pcall env n 287 [pvSV (.t ⟨⟨p⟩⟩)] []=some ⟨pvSV (.b (!BAz p)),[]⟩:=by
 obtain⟨m,rfl⟩:=AEz hn
 have hc:=FDz m (deep hn (by decide)) ⟨⟨p⟩⟩ hp
 simp only[go_sem,BYz]at hc
 refine ANz (ADz (fn:=Tryz.f287) rfl rfl rfl (Nat.le_of_ble_eq_true rfl) ?_)
 unfold Tryz.f287
 simp only[go_sem,seval,hc]
theorem Nqz (n:Nat) (hn:Big+3≤n) (l:List (List UInt8)) (ho:∀p∈l,okP p) (hl:l.length≤Bd):∃v:Int,decide (v≥0)= !(l.all BAz)∧pcall env n 307 [.c .one [.sh true (.s 1 (l.map ppv))],.fn 287 []] []=some ⟨pvSV (.i .i64 v),[]⟩:=by
 obtain⟨m,rfl⟩:=AEz hn
 have hB:=ASz
 have hbd:Bd=1048576:=rfl
 suffices h: @Wq _ (pcall env (m+1) 307 [.c .one [.sh true (.s 1 (l.map ppv))],.fn 287 []] []) ⟨fun r=>∃v:Int,decide (v≥0)= !(l.all BAz)∧r=⟨pvSV (.i .i64 v),[]⟩⟩by
  obtain⟨r,h1,v,h2,h3⟩:=h;exact⟨v,h2,by rw[h1,h3]⟩
 refine ADz (fn:=Tryz.f307) rfl rfl rfl (Nat.le_of_ble_eq_true rfl) ?_
 unfold Tryz.f307
 simp only[go_sem,seval]
 refine AFz (fun k σ=>∃j:Nat,j≤l.length∧k=l.length - j∧(∀(i:Nat) (p:List UInt8),i<j→l[i]? =some p→BAz p=true)∧σ=slots 19 [(0,.c .one [.sh true (.s 1 (l.map ppv))]),(1,.fn 287 []),(7,.c .one [.sh false (.i .i64 (l.length:Nat))]),(8,.c .one [.sh false (.i .i64 (j:Nat))])]) l.length (by omega) ?_ ?_
 ·simp only[go_sem,seval]
  exact⟨0,Nat.zero_le _,rfl,fun i c hi=>absurd hi (Nat.not_lt_zero _),rfl⟩
 ·rintro k σ ⟨j,hj,rfl,hp,rfl⟩
  by_cases hlt:j<l.length
  ·have h1:((j:Int)<(l.length:Int)):=by omega
   have hx:l[j]? =some l[j]:=List.getElem?_eq_getElem hlt
   have hok:=ho _ (List.getElem_mem hlt)
   generalize l[j]=p at hx hok
   have hc:=Qaz m (deep hn (by decide)) p hok
   simp only[go_sem]at hc
   cases hb:BAz p
   ·simp only[go_sem,seval,h1,hx,hc,hb]
    refine⟨_,?_,rfl⟩
    have:l.all BAz=false:=by rw[List.all_eq_false];exact⟨p,List.mem_of_getElem? hx,by simp[hb]⟩
    rw[this];simp
   ·simp only[go_sem,seval,h1,hx,hc,hb,ACz hlt (by omega)]
    refine⟨_,by omega,j+1,hlt,rfl,fun i q hi hq=> ?_,rfl⟩
    rcases Nat.lt_succ_iff_lt_or_eq.1 hi with h|h
    ·exact hp i q h hq
    ·subst h;rw[hx]at hq;injection hq with hq;subst hq;exact hb
  ·have h1:¬((j:Int)<(l.length:Int)):=by omega
   simp only[go_sem,seval,h1]
   refine⟨_,?_,rfl⟩
   have:l.all BAz=true:=by
    rw[List.all_eq_true]
    intro p hm
    obtain⟨i,hi⟩:=List.getElem?_of_mem hm
    exact hp i p (by have:=(List.getElem?_eq_some_iff.1 hi).1;omega) hi
   rw[this];simp
theorem K1z (n:Nat) (hn:Big+4≤n) (l:List (List UInt8)) (ho:∀p∈l,okP p) (hl:l.length≤Bd):pcall env n 286 [.c .one [.sh true (.s 1 (l.map ppv))],.fn 287 []] []=some ⟨pvSV (.b (!(l.all BAz))),[]⟩:=by
 obtain⟨m,rfl⟩:=AEz hn
 obtain⟨v,hv,hc⟩:=Nqz m (deep hn (by decide)) l ho hl
 simp only[go_sem]at hc
 rw[←hv]
 refine ANz (ADz (fn:=Tryz.f286) rfl rfl rfl (Nat.le_of_ble_eq_true rfl) ?_)
 unfold Tryz.f286
 simp only[go_sem,seval,hc]
theorem Qfz (n:Nat) (hn:Big+5≤n) (l:List (List UInt8)) (ho:∀p∈l,okP p) (hl:l.length≤Bd):pcall env n 248 [.c .one [.sh true (.s 1 (l.map ppv))]] []=some ⟨pvSV (.b (decide (l.length≤30)&&l.all BAz)),[]⟩:=by
 obtain⟨m,rfl⟩:=AEz hn
 have hc:=K1z m (deep hn (by decide)) l ho hl
 simp only[go_sem]at hc
 refine ANz (ADz (fn:=Tryz.f248) rfl rfl rfl (Nat.le_of_ble_eq_true rfl) ?_)
 unfold Tryz.f248
 by_cases h:l.length≤30
 ·have h1:((l.length:Int)≤30):=by omega
  simp only[go_sem,seval,hc,h1,h]
 ·have h1:¬((l.length:Int)≤30):=by omega
  simp only[go_sem,seval,hc,h1,h]
def BJz (l:List UInt8):Option (List (List UInt8)):=
 if l=[47]then some []else match AUz l with
  |[]::p::ps=>if(decide ((p::ps).length≤30)&&(p::ps).all BAz)=true then some (p::ps)else none
  |_=>none
def DOz:Option (List (List UInt8))→List CV
 |none=>[.ow false 1 [],.sh false (.b false)]
 |some []=>[.ow false 1 [],.sh false (.b true)]
 |some (p::ps)=>[.sh false (.s 1 ((p::ps).map ppv)),.sh false (.b true)]
theorem IEz (n:Nat) (hn:Big+7≤n) (l:List UInt8) (hl:l.length≤Bd):pcall env n 205 [pvSV (.t ⟨⟨l⟩⟩)] []=some ⟨.c (.tup [(false,1),(false,1)]) (DOz (BJz l)),[]⟩:=by
 obtain⟨m,rfl⟩:=AEz hn
 have hc:=Tez m (deep hn (by decide)) l hl
 have hlen:=EGz l
 have hcl:l.count 47≤l.length:=List.count_le_length
 have hle:=IDz l
 simp only[go_sem]at hc
 by_cases h47:l=[47]
 ·have hb:(l==[47])=true:=by simp[h47]
  rw[show BJz l=some []from if_pos h47]
  refine ANz (ADz (fn:=Tryz.f205) rfl rfl rfl (Nat.le_of_ble_eq_true rfl) ?_)
  unfold Tryz.f205
  simp only[go_sem,seval,hc,hb,DOz]
 ·have hb:(l==[47])=false:=by simpa using h47
  cases hs:AUz l with
  |nil=>rw[hs]at hlen;simp at hlen
  |cons p0 rest=>
   rw[hs]at hc hlen hle
   cases p0 with
   |cons c cs=>
    rw[show BJz l=none from by unfold BJz;rw[if_neg h47,hs]]
    refine ANz (ADz (fn:=Tryz.f205) rfl rfl rfl (Nat.le_of_ble_eq_true rfl) ?_)
    unfold Tryz.f205
    simp only[go_sem,seval,hc,hb,DOz]
   |nil=>
    cases rest with
    |nil=>
     rw[show BJz l=none from by unfold BJz;rw[if_neg h47,hs]]
     refine ANz (ADz (fn:=Tryz.f205) rfl rfl rfl (Nat.le_of_ble_eq_true rfl) ?_)
     unfold Tryz.f205
     simp only[go_sem,seval,hc,hb,DOz]
    |cons p ps=>
     have hn2:=Qfz m (deep hn (by decide)) (p::ps) (fun q hq=>Nat.le_trans (hle q (by simp[hq])) hl) (by simp only[List.length_cons]at hlen ⊢;omega)
     have hp:BJz l=if(decide ((p::ps).length≤30)&&(p::ps).all BAz)=true then some (p::ps)else none:=by unfold BJz;rw[if_neg h47,hs]
     have hlt:¬(((ps.length+1+1:Nat):Int)<2):=by omega
     have hge:((1:Int)≤((ps.length+1+1:Nat):Int)):=by omega
     rw[hp]
     generalize(decide ((p::ps).length≤30)&&(p::ps).all BAz)=b at hn2 ⊢
     simp only[go_sem]at hn2 hc
     refine ANz (ADz (fn:=Tryz.f205) rfl rfl rfl (Nat.le_of_ble_eq_true rfl) ?_)
     unfold Tryz.f205
     cases b
     ·simp only[go_sem,seval,hc,hb,hn2,hlt,hge,DOz]
     ·simp only[go_sem,seval,hc,hb,hn2,hlt,hge,DOz]
end Go.Proofs.YtblelojdboefjaaGreatDoor.R
